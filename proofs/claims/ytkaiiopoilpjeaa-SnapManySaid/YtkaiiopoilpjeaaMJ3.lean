/- Lemmas. -/
import Derived.Test.YtkaiiopoilpjeaaJ14
set_option linter.unusedSimpArgs false
set_option linter.unusedVariables false
set_option maxRecDepth 10000
set_option maxHeartbeats 16000000
namespace Go.Proofs.Ytkaiiopoilpjeaa
open Go.AI
attribute [local irreducible] aops aexec acall aiter aop W WO
theorem c_may1 (k : Nat) (hk : 5 ≤ k) (r : Rec) (hr : r.ok) : FnV (CF k) n_commit_may_1 [r.av] (.bool false) := by
 have hc := c_record_Check (k - 1) (by omega) r
 rw [if_pos hr] at hc
 obtain ⟨b1, b2, b3, b4, b5, b6, b7, b8⟩ := r
 unfold Rec.av at hc ⊢
 simp only at hc ⊢
 refine fnk (by omega) B_commit_may_1 rfl ?_
 unfold commit_may_1
 repeat' (first
  | refine q_s ?_ | refine q_z ?_ | refine q_mv ?_ | refine q_load ?_ | refine q_loadI ?_ | refine q_loadR ?_ | refine q_loadM ?_ | refine q_cmp ?_ | refine q_cmp2 (fun _ => ?_) (fun _ => ?_)
  | refine q_box ?_ | refine q_callB (hc) (fun _ => ?_) (fun _ => ?_) | refine q_call (hc) ?_)
 exact ⟨Or.inr rfl, _, rfl, rfl⟩
theorem c_may2 (k : Nat) (hk : 2 ≤ k) (a : Nat) (ha : 2 ≤ a ∧ a < 4096) : FnV (CF k) n_commit_may_2 [nav a] (.bool false) := by
 have hc := c_commit_place (k - 1) (by omega) a
 rw [decide_eq_true ha] at hc
 unfold nav
 refine fnk (by omega) B_commit_may_2 rfl ?_
 unfold commit_may_2
 repeat' (first | refine q_s ?_ | refine q_z ?_ | refine q_call hc ?_ | refine q_mv ?_ | refine q_notT ?_ | refine q_notF ?_)
 exact ⟨Or.inr rfl, _, rfl, rfl⟩
theorem c_IndexFuncNE (k : Nat) (hk : 10 ≤ k) (t f : Bool) (s : Nat) (v : AV) : FnV (CF k) n_slices_IndexFunc___int_int_ [.islc t f s [], v] (.int .i64 (-1)) := by
 refine fnk (by omega) B_slices_IndexFunc___int_int_ rfl ?_
 unfold slices_IndexFunc___int_int_
 repeat' (first
  | refine q_s ?_ | refine q_z ?_ | refine q_b ?_ | refine q_mv ?_ | refine q_load ?_ | refine q_loadI ?_ | refine q_loadR ?_ | refine q_loadM ?_ | refine q_cmp ?_
  | refine q_cmp2 (fun _ => ?_) (fun _ => ?_) | refine q_add ?_ | refine q_len ?_ | refine q_lenS ?_ | refine q_len0 ?_ | refine q_lenM ?_ | refine q_at ?_ | refine q_atM ?_ | refine q_atG ?_
  | refine q_atR ?_)
 refine w_iter0 (w_it (by omega) ?_)
 repeat' (first
  | refine q_s ?_ | refine q_z ?_ | refine q_b ?_ | refine q_mv ?_ | refine q_load ?_ | refine q_loadI ?_ | refine q_loadR ?_ | refine q_loadM ?_ | refine q_cmp ?_
  | refine q_cmp2 (fun _ => ?_) (fun _ => ?_) | refine q_add ?_ | refine q_len ?_ | refine q_lenS ?_ | refine q_len0 ?_ | refine q_lenM ?_ | refine q_at ?_ | refine q_atM ?_ | refine q_atG ?_
  | refine q_atR ?_)
 exact ⟨Or.inr rfl, _, rfl, rfl⟩
theorem c_ContainsFuncNE (k : Nat) (hk : 11 ≤ k) (t f : Bool) (s : Nat) (fn : Nat) (caps : List AV) (hz : ∀ H, caps.map (fz false 5 H) = caps) : FnV (CF k) n_slices_ContainsFunc___int_int_ [.islc t f s [], .fn fn caps] (.bool false) := by
 have hi := c_IndexFuncNE (k - 1) (by omega) t f s (.fn fn caps)
 refine fnk (by omega) B_slices_ContainsFunc___int_int_ rfl ?_
 unfold slices_ContainsFunc___int_int_
 repeat' (first | refine q_s ?_ | refine q_z ?_ | refine q_call hi ?_ rfl (by show [_, AV.fn fn (caps.map (fz false 5 _))] = _; rw [hz]; rfl) | refine q_mv ?_ | refine q_cmp ?_ | refine q_cmp2 (fun _ => ?_) (fun _ => ?_))
 exact ⟨Or.inr rfl, _, rfl, rfl⟩
def rising (l : List Nat) : Prop := ∀ i, i + 1 < l.length → l.getD i default < l.getD (i + 1) default
theorem may_loop {k : Nat} {free : List Nat} {f : Bool} {T : Tmps} {H : Heap} (hk : 1000000 ≤ k) (hl : free.length ≤ 4096) (hr : rising free)
  (hT : Has T [(5, .islc false f 1 (NL free)), (13, .bool false), (53, .int .i64 free.length), (54, .int .i64 0)]) :
  W (aexec (CF k) noX 0 k (.loop commit_may_l0) T H) (fun ex T' H' => ex = .exit 0 ∧ T' 13 = .bool false) := by
 refine w_for free.length (fun i T' H' => Has T' [(5, .islc false f 1 (NL free)), (13, .bool false), (53, .int .i64 free.length), (54, .int .i64 (i : Nat))]) hT (by omega) ?_
 rintro i T H hi hT
 rw [hT.eq]
 simp only [over]
 unfold commit_may_l0
 by_cases hil : i < free.length
 ·by_cases h0 : i = 0
  ·subst h0
   repeat' (first
    | refine q_s ?_ | refine q_z ?_ | refine q_b ?_ | refine q_n ?_ | refine q_nn ?_ | refine q_mv ?_ | refine q_load ?_ | refine q_loadI ?_ | refine q_loadR ?_ | refine q_loadM ?_
    | refine q_cmp ?_ | refine q_cmp2 (fun _ => ?_) (fun _ => ?_) | refine q_add ?_ | refine q_sub ?_ | refine q_pickT ?_ | refine q_pickF ?_ | refine q_at ?_ | refine q_atM ?_
    | refine q_atG ?_ | refine q_atR ?_)
   exact ⟨hil, rfl, rfl, rfl, by show AV.int _ _ = AV.int _ _; congr 1, trivial⟩
  ·have hlt := hr (i - 1) (by omega)
   rw [show i - 1 + 1 = i by omega] at hlt
   obtain ⟨a, ha⟩ : ∃ a, a = free.getD (i - 1) default := ⟨_, rfl⟩
   obtain ⟨b, hb⟩ : ∃ b, b = free.getD i default := ⟨_, rfl⟩
   rw [← ha, ← hb] at hlt
   have ha2 : free.getD ((i : Int) - 1).toNat default = a := by rw [show ((i : Int) - 1).toNat = i - 1 by omega]; exact ha.symm
   have hb2 : free.getD (i : Int).toNat default = b := by rw [show (i : Int).toNat = i by omega]; exact hb.symm
   repeat' (first
    | refine q_s ?_ | refine q_z ?_ | refine q_b ?_ | refine wo_atV (enc := nav) a rfl rfl (by omega) (by omega) ha2 rfl rfl ?_
    | refine wo_atV (enc := nav) b rfl rfl (by omega) (by omega) hb2 rfl rfl ?_ | refine q_n ?_ | refine q_nn ?_ | refine q_mv ?_ | refine q_load ?_ | refine q_loadI ?_ | refine q_loadR ?_
    | refine q_loadM ?_ | refine q_cmp ?_ | refine q_cmp2 (fun _ => ?_) (fun _ => ?_) | refine q_add ?_ | refine q_sub ?_ | refine q_pickT ?_ | refine q_pickF ?_ | refine q_at ?_
    | refine q_atM ?_ | refine q_atG ?_ | refine q_atR ?_)
   exact ⟨hil, rfl, rfl, rfl, by show AV.int _ _ = AV.int _ _; congr 1, trivial⟩
 ·have hin : i = free.length := by omega
  repeat' (first
   | refine q_s ?_ | refine q_z ?_ | refine q_b ?_ | refine q_n ?_ | refine q_nn ?_ | refine q_mv ?_ | refine q_load ?_ | refine q_loadI ?_ | refine q_loadR ?_ | refine q_loadM ?_
   | refine q_cmp ?_ | refine q_cmp2 (fun _ => ?_) (fun _ => ?_) | refine q_add ?_ | refine q_sub ?_ | refine q_pickT ?_ | refine q_pickF ?_ | refine q_at ?_ | refine q_atM ?_
   | refine q_atG ?_ | refine q_atR ?_)
  exact ⟨rfl, rfl⟩
theorem c_commit_may (k : Nat) (hk : 1000050 ≤ k) (recs : List Rec) (f1 : Bool) (s1 : Nat) (hs1 : s1 = 8 ∨ recs = []) (bl : List Nat) (f2 : Bool) (s2 : Nat) (hs2 : s2 = 1 ∨ bl = []) (n : Nat) (first : Rec) (wth : Bool) (free : List Nat) (f3 : Bool) (hrl : recs.length < 1000) (hbl : bl.length = recs.length) (hn : n ≤ recs.length)
  (hro : ∀ r ∈ recs, r.ok) (hfo : wth = true → ({ first with next := 0 } : Rec).ok) (hb : ∀ a ∈ bl, 2 ≤ a ∧ a < 4096) (hf : ∀ a ∈ free, 2 ≤ a ∧ a < 4096) (hfl : free.length ≤ 4096) (hinc : rising free) :
  FnV (CF k) n_commit_may [.islc false f1 s1 (recs.map Rec.av), .islc false f2 s2 (NL bl), .int .i64 n, first.av, .bool wth, .islc false f3 1 (NL free)] (.bool true) := by
 have hc := c_record_Check (k - 1) (by omega) { first with next := 0 }
 have hcr : FnV (CF (k - 1)) n_slices_ContainsFunc___api_Record_api_Record_ [.islc false f1 s1 (recs.map Rec.av), .fn n_commit_may_1 []] (.bool false) := by
  by_cases hn : recs = []
  ·subst hn
   exact c_ContainsFuncRE (k - 1) (by omega) false f1 s1 _ _ (fun _ => rfl)
  ·obtain rfl : s1 = 8 := hs1.resolve_right hn
   have := c_ContainsFuncR (k - 1) (by omega) false f1 recs n_commit_may_1 [] (fun _ => false) (by omega) (fun _ => rfl) (fun _ _ => rfl) (fun i hi => c_may1 (k - 3) (by omega) _ (hro _ (by rw [List.getD_eq_getElem?_getD, List.getElem?_eq_getElem hi]; exact List.getElem_mem hi)))
   rwa [show (recs.any fun _ => false) = false by simp] at this
 obtain ⟨f', s', hs', hcc⟩ := c_Concat (k - 1) (by omega) bl free f2 f3 s2 1 hs2 (.inl rfl) (by omega)
 have hcn : FnV (CF (k - 1)) n_slices_ContainsFunc___int_int_ [.islc false f' s' (NL (bl ++ free)), .fn n_commit_may_2 []] (.bool false) := by
  by_cases hn : bl ++ free = []
  ·rw [hn]
   exact c_ContainsFuncNE (k - 1) (by omega) false f' s' _ _ (fun _ => rfl)
  ·obtain rfl : s' = 1 := hs'.resolve_right hn
   have := c_ContainsFuncN (k - 1) (by omega) false f' (bl ++ free) n_commit_may_2 [] (fun _ => false) (by simp; omega) (fun _ => rfl) (fun _ _ => rfl) (fun i hi => c_may2 (k - 3) (by omega) _ (by
    have hm : (bl ++ free).getD i default ∈ bl ++ free := by rw [List.getD_eq_getElem?_getD, List.getElem?_eq_getElem hi]; exact List.getElem_mem hi
    rcases List.mem_append.1 hm with h | h
    ·exact hb _ h
    ·exact hf _ h))
   rwa [show ((bl ++ free).any fun _ => false) = false by simp] at this
 have hlr : (recs.map Rec.av).length = recs.length := List.length_map _
 obtain ⟨b1, b2, b3, b4, b5, b6, b7, b8⟩ := first
 unfold Rec.av at hc ⊢
 simp only at hc hfo ⊢
 refine fnk (by omega) B_commit_may rfl ?_
 unfold commit_may
 cases wth with
 | true =>
  rw [if_pos (hfo rfl)] at hc
  have hc' : FnV (CF (k - 1)) n_record_Check [.agg [.int .i64 0, .int .i64 b2, .int .i64 b3, .int .i64 b4, .int .i64 b5, .int .i64 b6, .int .i64 b7, .int .i64 b8]] (.int .i64 0) := hc
  repeat' (first
   | refine q_s ?_ | refine q_z ?_ | refine q_b ?_ | refine q_call hcr ?_ | refine q_call hcc ?_ | refine q_call hcn ?_ | refine wo_lenG (n := recs.length) rfl hlr rfl rfl ?_
   | refine wo_lenG (n := bl.length) rfl (NL_len _) rfl rfl ?_ | refine wo_lenG (n := free.length) rfl (NL_len _) rfl rfl ?_ | refine q_n ?_ | refine q_nn ?_ | refine q_mv ?_
   | refine q_faddr ?_ | refine q_faddrI ?_ | refine q_load ?_ | refine q_loadI ?_ | refine q_loadR ?_ | refine q_loadM ?_ | refine q_cmp ?_ | refine q_cmp2 (fun _ => ?_) (fun _ => ?_)
   | refine q_add ?_ | refine q_sub ?_ | refine q_pickT ?_ | refine q_pickF ?_ | refine q_notT ?_ | refine q_notF ?_ | refine q_len ?_ | refine q_lenS ?_ | refine q_len0 ?_
   | refine q_lenM ?_ | refine q_store ?_ | refine q_storeR ?_ | refine q_storeM ?_ | refine q_box ?_ | refine q_at ?_ | refine q_atM ?_ | refine q_atG ?_ | refine q_atR ?_
   | refine q_buildS ?_ | refine q_callB (hc') (fun _ => ?_) (fun _ => ?_) | refine q_call (hc') ?_)
  refine W.mono (may_loop (k := k - 1) (free := free) (f := f3) (by omega) hfl hinc ?_) ?_
  ·exact ⟨rfl, rfl, rfl, rfl, trivial⟩
  rintro ex T2 H2 ⟨rfl, h13⟩
  rw [Has.eq (T := T2) (ps := [(13, _)]) ⟨h13, trivial⟩]
  simp only [over]
  show W _ _
  repeat' (first
   | refine q_s ?_ | refine q_z ?_ | refine q_b ?_ | refine q_n ?_ | refine q_nn ?_ | refine q_mv ?_ | refine q_faddr ?_ | refine q_faddrI ?_ | refine q_load ?_ | refine q_loadI ?_
   | refine q_loadR ?_ | refine q_loadM ?_ | refine q_cmp ?_ | refine q_cmp2 (fun _ => ?_) (fun _ => ?_) | refine q_add ?_ | refine q_sub ?_ | refine q_pickT ?_ | refine q_pickF ?_
   | refine q_notT ?_ | refine q_notF ?_ | refine q_len ?_ | refine q_lenS ?_ | refine q_len0 ?_ | refine q_lenM ?_ | refine q_store ?_ | refine q_storeR ?_ | refine q_storeM ?_
   | refine q_box ?_ | refine q_at ?_ | refine q_atM ?_ | refine q_atG ?_ | refine q_atR ?_ | refine q_buildS ?_)
  exact ⟨Or.inr rfl, _, rfl, rfl⟩
 | false =>
  repeat' (first
   | refine q_s ?_ | refine q_z ?_ | refine q_b ?_ | refine q_call hcr ?_ | refine q_call hcc ?_ | refine q_call hcn ?_ | refine wo_lenG (n := recs.length) rfl hlr rfl rfl ?_
   | refine wo_lenG (n := bl.length) rfl (NL_len _) rfl rfl ?_ | refine wo_lenG (n := free.length) rfl (NL_len _) rfl rfl ?_ | refine q_n ?_ | refine q_nn ?_ | refine q_mv ?_
   | refine q_faddr ?_ | refine q_faddrI ?_ | refine q_load ?_ | refine q_loadI ?_ | refine q_loadR ?_ | refine q_loadM ?_ | refine q_cmp ?_ | refine q_cmp2 (fun _ => ?_) (fun _ => ?_)
   | refine q_add ?_ | refine q_sub ?_ | refine q_pickT ?_ | refine q_pickF ?_ | refine q_notT ?_ | refine q_notF ?_ | refine q_len ?_ | refine q_lenS ?_ | refine q_len0 ?_
   | refine q_lenM ?_ | refine q_store ?_ | refine q_storeR ?_ | refine q_storeM ?_ | refine q_box ?_ | refine q_at ?_ | refine q_atM ?_ | refine q_atG ?_ | refine q_atR ?_
   | refine q_buildS ?_)
  refine W.mono (may_loop (k := k - 1) (free := free) (f := f3) (by omega) hfl hinc ?_) ?_
  ·exact ⟨rfl, rfl, rfl, rfl, trivial⟩
  rintro ex T2 H2 ⟨rfl, h13⟩
  rw [Has.eq (T := T2) (ps := [(13, _)]) ⟨h13, trivial⟩]
  simp only [over]
  show W _ _
  repeat' (first
   | refine q_s ?_ | refine q_z ?_ | refine q_b ?_ | refine q_n ?_ | refine q_nn ?_ | refine q_mv ?_ | refine q_faddr ?_ | refine q_faddrI ?_ | refine q_load ?_ | refine q_loadI ?_
   | refine q_loadR ?_ | refine q_loadM ?_ | refine q_cmp ?_ | refine q_cmp2 (fun _ => ?_) (fun _ => ?_) | refine q_add ?_ | refine q_sub ?_ | refine q_pickT ?_ | refine q_pickF ?_
   | refine q_notT ?_ | refine q_notF ?_ | refine q_len ?_ | refine q_lenS ?_ | refine q_len0 ?_ | refine q_lenM ?_ | refine q_store ?_ | refine q_storeR ?_ | refine q_storeM ?_
   | refine q_box ?_ | refine q_at ?_ | refine q_atM ?_ | refine q_atG ?_ | refine q_atR ?_ | refine q_buildS ?_)
  exact ⟨Or.inr rfl, _, rfl, rfl⟩
end Go.Proofs.Ytkaiiopoilpjeaa
set_option linter.unusedSimpArgs false
set_option linter.unusedVariables false
set_option maxRecDepth 10000
set_option maxHeartbeats 16000000
namespace Go.AI
section
variable {cf : CallF} {xf : ExtF} {base : Nat} {T : Tmps} {H : Heap} {QO : Tmps → Heap → Prop} {log : List FP} {g : Option (Nat × Bool)} {un : List Nat} {r : List SOper} {d : Nat} {t f : Bool}
theorem wo_storeA {α : Type} [Inhabited α] {enc : α → AV} {l : List α} {a : α} {j g0 ver i s : Nat} {x y : SArg} (hx : x.ev T = .ptr j g0 ver s i 0) (hr : H j = ⟨g0, false, .row s (l.map enc)⟩) (hv0 : l.length = ver) (hi : i < l.length) (hy : y.ev T = enc a) (hs : ∀ a, storable (enc a) = true) (hc : ∀ a, (enc a).cells.length = s)
  (hrw : ∀ e a, (enc e).rewrap (enc a).cells = enc a) (hw : awanted T g = some true) (hl : logOk log ⟨[j], [j], false⟩ un = true) (h : WO (aops cf xf base r (log ++ [⟨[j], [j], false⟩]) T (H.upd j ⟨g0, false, .row s ((l.set i a).map enc)⟩)) QO) :
  WO (aops cf xf base (⟨none, .store s x y, g, un⟩ :: r) log T H) QO := by
 refine wo_storeR hx hr (by simpa using hv0) (map_get enc l hi) hy (hs a) rfl (hc a) (by rw [hc]; omega) hw hl ?_
 rw [List.take_zero, List.nil_append, List.drop_of_length_le (by rw [hc]; omega), List.append_nil, hrw, ← List.map_set]
 exact h
end
end Go.AI
namespace Go.Proofs.Ytkaiiopoilpjeaa
open Go.AI
theorem Rec.st : ∀ a : Rec, storable a.av = true := fun ⟨_, _, _, _, _, _, _, _⟩ => rfl
theorem Rec.cl : ∀ a : Rec, a.av.cells.length = 8 := fun ⟨_, _, _, _, _, _, _, _⟩ => rfl
theorem Rec.rw : ∀ e a : Rec, e.av.rewrap a.av.cells = a.av := fun ⟨_, _, _, _, _, _, _, _⟩ ⟨_, _, _, _, _, _, _, _⟩ => rfl
theorem Rec.ld : ∀ a : Rec, AV.agg (a.av.cells.take 8) = a.av := fun ⟨_, _, _, _, _, _, _, _⟩ => rfl
theorem Rec.nr : ∀ a : Rec, a.av.norefs = true := fun ⟨_, _, _, _, _, _, _, _⟩ => rfl
def revd (l m : List Rec) (i : Nat) : Prop := m.length = l.length ∧ ∀ x, x < l.length → m.getD x default = if x < i ∨ l.length - i ≤ x then l.getD (l.length - 1 - x) default else l.getD x default
theorem revd_step {l m : List Rec} {i : Nat} (h : revd l m i) (hi : i + i + 1 < l.length) : revd l ((m.set i (m.getD (l.length - 1 - i) default)).set (l.length - 1 - i) (m.getD i default)) (i + 1) := by
 obtain ⟨h1, h2⟩ := h
 refine ⟨by simp [h1], fun x hx => ?_⟩
 have e1 := h2 i (by omega)
 have e2 := h2 (l.length - 1 - i) (by omega)
 have e3 := h2 x hx
 rw [if_neg (by omega)] at e1 e2
 simp only [List.getD_eq_getElem?_getD, List.getElem?_set, List.length_set, h1] at e1 e2 e3 ⊢
 by_cases hxi : x = i
 ·subst hxi
  rw [if_neg (by omega), if_pos rfl, if_pos (by omega)]
  simp only [Option.getD_some]
  rw [e2, if_pos (by omega)]
 ·by_cases hxj : x = l.length - 1 - i
  ·subst hxj
   rw [if_pos rfl, if_pos (by omega)]
   simp only [Option.getD_some]
   rw [e1, if_pos (by omega), show l.length - 1 - (l.length - 1 - i) = i by omega]
  ·rw [if_neg (by omega), if_neg (by omega), e3]
   by_cases hc : x < i ∨ l.length - i ≤ x
   ·rw [if_pos hc, if_pos (by omega)]
   ·rw [if_neg hc, if_neg (by omega)]
theorem revd_end {l m : List Rec} {i : Nat} (h : revd l m i) (hi : l.length ≤ i + i + 1) : m = l.reverse := by
 obtain ⟨h1, h2⟩ := h
 refine List.ext_getElem (by simp [h1]) fun x hx hx2 => ?_
 have e3 := h2 x (by omega)
 simp only [List.getD_eq_getElem?_getD, List.getElem?_eq_getElem hx, Option.getD_some] at e3
 rw [e3, List.getElem_reverse]
 by_cases hc : x < i ∨ l.length - i ≤ x
 ·rw [if_pos hc, List.getElem?_eq_getElem (by omega)]; rfl
 ·rw [if_neg hc, List.getElem?_eq_getElem (by omega)]
  simp only [Option.getD_some]
  congr 1
  omega
attribute [local irreducible] aops aexec acall aiter aop W WO
theorem c_Reverse (k : Nat) (hk : 1000000 < k) (l : List Rec) (hl : l.length < 1000) (H : Heap) (hH : H 5 = ⟨1, false, .row 8 (l.map Rec.av)⟩) :
  ∃ u H', CF k n_slices_Reverse___api_Record_api_Record_ 6 [.slc 5 1 l.length 8 0 l.length none] H = some (u, H') ∧ H' = H.upd 5 ⟨1, false, .row 8 (l.reverse.map Rec.av)⟩ := by
 have hu : ∀ m : List Rec, (H.upd 5 ⟨1, false, .row 8 (m.map Rec.av)⟩) 5 = ⟨1, false, .row 8 (m.map Rec.av)⟩ := fun m => Heap.upd_same _ _ _
 have huu : ∀ a b : Blk, (H.upd 5 a).upd 5 b = H.upd 5 b := fun a b => by
  funext i
  by_cases hi : i = 5
  ·subst hi; rw [Heap.upd_same, Heap.upd_same]
  ·rw [Heap.upd_eq, if_neg hi, Heap.upd_eq, if_neg hi, Heap.upd_eq, if_neg hi]
 have hsame : H = H.upd 5 ⟨1, false, .row 8 (l.map Rec.av)⟩ := by
  funext i
  by_cases hi : i = 5
  ·subst hi; rw [Heap.upd_same]; exact hH
  ·rw [Heap.upd_eq, if_neg hi]
 refine fni (by omega) B_slices_Reverse___api_Record_api_Record_ rfl ?_
 unfold slices_Reverse___api_Record_api_Record_
 repeat' (first
  | refine q_s ?_ | refine q_z ?_ | refine q_b ?_ | refine q_mv ?_ | refine q_load ?_ | refine q_loadI ?_ | refine q_loadR ?_ | refine q_loadM ?_ | refine q_cmp ?_
  | refine q_cmp2 (fun _ => ?_) (fun _ => ?_) | refine q_add ?_ | refine q_sub ?_ | refine q_len ?_ | refine q_lenS ?_ | refine q_len0 ?_ | refine q_lenM ?_ | refine q_store ?_
  | refine q_storeR ?_ | refine q_storeM ?_ | refine q_at ?_ | refine q_atM ?_ | refine q_atG ?_ | refine q_atR ?_)
 refine w_for 1000 (fun i T' H' => ∃ m, revd l m i ∧ i ≤ l.length ∧ H' = H.upd 5 ⟨1, false, .row 8 (m.map Rec.av)⟩ ∧ Has T' [(0, .slc 5 1 l.length 8 0 l.length none), (2, .int .i64 (i : Nat)), (3, .int .i64 ((l.length : Int) - 1 - (i : Nat)))])
  ⟨l, ⟨rfl, fun x hx => by rw [if_neg (by omega)]⟩, by omega, hsame, rfl, rfl, by show AV.int _ _ = AV.int _ _; congr 1; omega, trivial⟩ (by omega) ?_
 rintro i T H' hi ⟨m, hrv, hil0, rfl, hT⟩
 rw [hT.eq]
 simp only [over]
 have hml := hrv.1
 by_cases hil : i + i + 1 < l.length
 ·have hst := revd_step hrv hil
  obtain ⟨a, ha⟩ : ∃ a, a = m.getD i default := ⟨_, rfl⟩
  obtain ⟨b, hb⟩ : ∃ b, b = m.getD (l.length - 1 - i) default := ⟨_, rfl⟩
  rw [← ha, ← hb] at hst
  have hjx : ((l.length : Int) - 1 - (i : Nat)).toNat = l.length - 1 - i := by omega
  have ha2 : m.getD (0 + (i : Int).toNat) default = a := by rw [show 0 + (i : Int).toNat = i by omega]; exact ha.symm
  have hb2 : m.getD (0 + ((l.length : Int) - 1 - (i : Nat)).toNat) default = b := by rw [hjx, Nat.zero_add]; exact hb.symm
  have hmm : (m.map Rec.av).length = l.length := by rw [List.length_map]; exact hml
  have hmm2 : ((m.set (0 + (i : Int).toNat) b).map Rec.av).length = l.length := by simp [hml]
  repeat' (first
   | refine q_s ?_ | refine q_z ?_ | refine q_b ?_ | refine wo_atR rfl rfl (hu m) hmm (by omega) (by omega) (by omega) rfl rfl ?_
   | refine q_loadM (enc := Rec.av) (l := m) (v := a.av) ?_ (hr := by exact hu m) (hv0 := by exact hml) (hv := by rw [ha2]; exact Rec.ld a) (hk := by rw [Rec.cl]; exact Nat.le_refl _)
   | refine q_loadM (enc := Rec.av) (l := m) (v := b.av) ?_ (hr := by exact hu m) (hv0 := by exact hml) (hv := by rw [hb2]; exact Rec.ld b) (hk := by rw [Rec.cl]; exact Nat.le_refl _)
   | refine wo_atR rfl rfl (by rfl) hmm2 (by omega) (by omega) (by omega) rfl rfl ?_
   | refine wo_storeA (enc := Rec.av) (l := m) (a := b) rfl (hu m) hml (by omega) rfl Rec.st Rec.cl Rec.rw rfl rfl ?_
   | refine wo_storeA (enc := Rec.av) (l := m.set (0 + (i : Int).toNat) b) (a := a) rfl (by rw [huu]; exact hu _) (by simp [hml]) (by simp [hml]; omega) rfl Rec.st Rec.cl Rec.rw rfl rfl ?_
   | refine q_mv ?_ | refine q_load ?_ | refine q_loadI ?_ | refine q_loadR ?_ | refine q_loadM ?_ | refine q_cmp ?_ | refine q_cmp2 (fun _ => ?_) (fun _ => ?_) | refine q_add ?_
   | refine q_sub ?_ | refine q_len ?_ | refine q_lenS ?_ | refine q_len0 ?_ | refine q_lenM ?_ | refine q_store ?_ | refine q_storeR ?_ | refine q_storeM ?_ | refine q_at ?_
   | refine q_atM ?_ | refine q_atG ?_ | refine q_atR ?_)
  refine ⟨by omega, (m.set i b).set (l.length - 1 - i) a, hst, by omega, ?_, rfl, by show AV.int _ _ = AV.int _ _; congr 1, by show AV.int _ _ = AV.int _ _; congr 1; omega, trivial⟩
  show ((H.upd 5 _).upd 5 _).upd 5 ⟨1, false, .row 8 (((m.set (0 + (i : Int).toNat) b).set (0 + ((l.length : Int) - 1 - (i : Nat)).toNat) a).map Rec.av)⟩ = _
  rw [huu, huu, show 0 + (i : Int).toNat = i by omega, show 0 + ((l.length : Int) - 1 - (i : Nat)).toNat = l.length - 1 - i by omega]
 ·have hfin := revd_end hrv (by omega)
  repeat' (first
   | refine q_s ?_ | refine q_z ?_ | refine q_b ?_ | refine q_mv ?_ | refine q_load ?_ | refine q_loadI ?_ | refine q_loadR ?_ | refine q_loadM ?_ | refine q_cmp ?_
   | refine q_cmp2 (fun _ => ?_) (fun _ => ?_) | refine q_add ?_ | refine q_sub ?_ | refine q_len ?_ | refine q_lenS ?_ | refine q_len0 ?_ | refine q_lenM ?_ | refine q_store ?_
   | refine q_storeR ?_ | refine q_storeM ?_ | refine q_at ?_ | refine q_atM ?_ | refine q_atG ?_ | refine q_atR ?_)
  exact ⟨Or.inl rfl, _, rfl, by rw [hfin]⟩
end Go.Proofs.Ytkaiiopoilpjeaa
set_option linter.unusedSimpArgs false
set_option linter.unusedVariables false
set_option maxRecDepth 10000
set_option maxHeartbeats 16000000
namespace Go.Proofs.Ytkaiiopoilpjeaa
open Go.AI
attribute [local irreducible] aops aexec acall aiter aop W WO
def anewP (recs : List Rec) (n : Nat) (first : Rec) (wth : Bool) : List Rec := (recs.take (n - 1)).reverse ++ (if wth = true then [first] else [])
def chainL : List Rec → List Nat → Nat → List IoV
 | r :: rs, a :: fs, p => wIo a (recB { r with next := p }) :: chainL rs fs a
 | [], _, _ => []
 | _ :: _, [], _ => []
def chainE : List Rec → List Nat → Nat → Nat
 | _ :: rs, a :: fs, _ => chainE rs fs a
 | [], _, p => p
 | _ :: _, [], p => p
def recsAv (anew : List Rec) (free : List Nat) (p : Nat) : AV :=
 if free.length < anew.length then .tup [.islc false false 3 [], .int .i64 0, .islc false false 1 [], .int .i64 9]
 else .tup [.islc false false 3 ((chainL anew free p).map IoV.av), .int .i64 (chainE anew free p), .islc false false 1 (NL (free.drop anew.length)), .int .i64 0]
theorem chainL_t : ∀ (rs : List Rec) (fs : List Nat) (p : Nat), ∀ x ∈ chainL rs fs p, x.t = false
 | [], _, _, x, h => by cases h
 | _ :: _, [], _, x, h => by cases h
 | r :: rs, a :: fs, p, x, h => by
  simp only [chainL] at h
  rcases List.mem_cons.1 h with rfl | h
  ·rfl
  ·exact chainL_t rs fs a x h
theorem c_Reverse0 (k : Nat) (hk : 1000 < k) (t f : Bool) (s : Nat) (H : Heap) : CF k n_slices_Reverse___api_Record_api_Record_ 6 [.islc t f s []] H = some (.undef, H) ∨ ∃ u, CF k n_slices_Reverse___api_Record_api_Record_ 6 [.islc t f s []] H = some (u, H) := by
 refine .inr ?_
 have h : ∃ u H', CF k n_slices_Reverse___api_Record_api_Record_ 6 [.islc t f s []] H = some (u, H') ∧ H' = H := by
  refine fni (by omega) B_slices_Reverse___api_Record_api_Record_ rfl ?_
  unfold slices_Reverse___api_Record_api_Record_
  repeat' (first
   | refine q_s ?_ | refine q_z ?_ | refine q_b ?_ | refine wo_lenG (n := 0) rfl rfl rfl rfl ?_ | refine q_mv ?_ | refine q_load ?_ | refine q_loadI ?_ | refine q_loadR ?_
   | refine q_loadM ?_ | refine q_cmp ?_ | refine q_cmp2 (fun _ => ?_) (fun _ => ?_) | refine q_add ?_ | refine q_sub ?_ | refine q_len ?_ | refine q_lenS ?_ | refine q_len0 ?_
   | refine q_lenM ?_ | refine q_store ?_ | refine q_storeR ?_ | refine q_storeM ?_ | refine q_at ?_ | refine q_atM ?_ | refine q_atG ?_ | refine q_atR ?_)
  refine w_iter0 (w_it (by omega) ?_)
  repeat' (first
   | refine q_s ?_ | refine q_z ?_ | refine q_b ?_ | refine q_mv ?_ | refine q_load ?_ | refine q_loadI ?_ | refine q_loadR ?_ | refine q_loadM ?_ | refine q_cmp ?_
   | refine q_cmp2 (fun _ => ?_) (fun _ => ?_) | refine q_add ?_ | refine q_sub ?_ | refine q_len ?_ | refine q_lenS ?_ | refine q_len0 ?_ | refine q_lenM ?_ | refine q_store ?_
   | refine q_storeR ?_ | refine q_storeM ?_ | refine q_at ?_ | refine q_atM ?_ | refine q_atG ?_ | refine q_atR ?_)
  exact ⟨Or.inl rfl, _, rfl, rfl⟩
 obtain ⟨u, H', h1, rfl⟩ := h
 exact ⟨u, h1⟩
theorem recs_loop5 {k : Nat} {anew : List Rec} {free : List Nat} {f3 : Bool} {p0 : Nat} {T : Tmps} {H : Heap} (hk : 1000050 ≤ k) (hm : anew.length < 1000) (hfl : anew.length ≤ free.length) (hfl2 : free.length ≤ 4096) (hro : ∀ r ∈ anew, ({ r with next := 0 } : Rec).ok) (hf : ∀ a ∈ free, 2 ≤ a ∧ a < 4096) (hp : ptrOk p0)
  (hj : H 5 = ⟨1, false, .row 8 (anew.map Rec.av)⟩) (h1 : H 1 = ⟨1, false, .row 3 []⟩)
  (hT : Has T [(5, .islc false f3 1 (NL free)), (12, .slc 1 1 0 3 0 0 none), (13, .int .i64 p0), (16, .slc 5 1 anew.length 8 0 anew.length none), (55, .slc 5 1 anew.length 8 0 anew.length none), (56, .int .i64 anew.length), (57, .int .i64 0)]) :
  W (aexec (CF k) noX 0 k (.loop commit_Records_l0) T H) (fun ex T' H' => ex = .exit 0 ∧ (chainL anew free p0).length = anew.length ∧ H' 1 = ⟨1, false, .row 3 ((chainL anew free p0).map IoV.av)⟩ ∧
   Has T' [(5, .islc false f3 1 (NL free)), (12, .slc 1 1 anew.length 3 0 anew.length none), (13, .int .i64 (chainE anew free p0)), (16, .slc 5 1 anew.length 8 0 anew.length none)]) := by
 refine w_for anew.length (fun i T' H' => ∃ (out : List IoV) (p : Nat), out.length = i ∧ ptrOk p ∧ chainL anew free p0 = out ++ chainL (anew.drop i) (free.drop i) p ∧ chainE anew free p0 = chainE (anew.drop i) (free.drop i) p ∧ H' 5 = ⟨1, false, .row 8 (anew.map Rec.av)⟩ ∧ H' 1 = ⟨1, false, .row 3 (out.map IoV.av)⟩ ∧
   Has T' [(5, .islc false f3 1 (NL free)), (12, .slc 1 1 i 3 0 i none), (13, .int .i64 p), (16, .slc 5 1 anew.length 8 0 anew.length none), (55, .slc 5 1 anew.length 8 0 anew.length none), (56, .int .i64 anew.length), (57, .int .i64 (i : Nat))])
  ⟨[], p0, rfl, hp, rfl, rfl, hj, h1, hT⟩ (by omega) ?_
 rintro i T H hi ⟨out, p, hol, hpp, hgo, hge, gj, g1, hT⟩
 rw [hT.eq]
 simp only [over]
 unfold commit_Records_l0
 by_cases hil : i < anew.length
 ·have hif : i < free.length := by omega
  rw [List.drop_eq_getElem_cons hil, List.drop_eq_getElem_cons hif] at hgo hge
  obtain ⟨a, ha⟩ : ∃ a, a = free[i] := ⟨_, rfl⟩
  obtain ⟨⟨b1, b2, b3, b4, b5, b6, b7, b8⟩, hr⟩ : ∃ r, r = anew[i] := ⟨_, rfl⟩
  have hab := hf free[i] (List.getElem_mem hif)
  have hrk := hro anew[i] (List.getElem_mem hil)
  rw [← ha, ← hr] at hgo hge
  rw [← ha] at hab
  rw [← hr] at hrk
  simp only [chainL, chainE] at hgo hge
  have hok : (⟨p, b2, b3, b4, b5, b6, b7, b8⟩ : Rec).ok := ⟨hpp, hrk.2⟩
  have hb := c_record_Bytes k (by omega) ⟨p, b2, b3, b4, b5, b6, b7, b8⟩
  rw [if_pos hok] at hb
  have hb' : FnV (CF k) n_record_Bytes [.agg [.int .i64 p, .int .i64 b2, .int .i64 b3, .int .i64 b4, .int .i64 b5, .int .i64 b6, .int .i64 b7, .int .i64 b8]] (.tup [.islc false false 1 (BL (recB ⟨p, b2, b3, b4, b5, b6, b7, b8⟩)), .int .i64 0]) := hb
  have hml : (anew.map Rec.av).length = anew.length := List.length_map _
  have he : (anew.map Rec.av)[0 + (i : Int).toNat]? = some (.agg [.int .i64 b1, .int .i64 b2, .int .i64 b3, .int .i64 b4, .int .i64 b5, .int .i64 b6, .int .i64 b7, .int .i64 b8]) := by
   rw [show 0 + (i : Int).toNat = i by omega, List.getElem?_map, List.getElem?_eq_getElem hil, ← hr]; rfl
  have ha2 : free.getD (i : Int).toNat default = a := by rw [Int.toNat_natCast, ha]; simp [hif]
  have hol2 : (out.map IoV.av).length = i := by rw [List.length_map]; exact hol
  repeat' (first
   | refine q_s ?_ | refine q_z ?_ | refine q_b ?_ | refine wo_atR rfl rfl (by exact gj) hml (by omega) (by omega) (by omega) rfl rfl ?_
   | refine wo_loadR (.agg [.int .i64 b1, .int .i64 b2, .int .i64 b3, .int .i64 b4, .int .i64 b5, .int .i64 b6, .int .i64 b7, .int .i64 b8]) rfl (by exact gj) hml he (Nat.le_of_ble_eq_true rfl) rfl rfl rfl ?_
   | refine wo_atV (enc := nav) a rfl rfl (by omega) (by omega) ha2 rfl rfl ?_ | refine wo_app1 rfl rfl rfl (by exact g1) hol2 rfl (by omega) rfl rfl (fun _ => ?_) | refine q_mv ?_
   | refine q_faddr ?_ | refine q_faddrI ?_ | refine q_load ?_ | refine q_loadI ?_ | refine q_loadR ?_ | refine q_loadM ?_ | refine q_cmp ?_ | refine q_cmp2 (fun _ => ?_) (fun _ => ?_)
   | refine q_add ?_ | refine q_ex ?_ | refine q_store ?_ | refine q_storeR ?_ | refine q_storeM ?_ | refine q_box ?_ | refine q_at ?_ | refine q_atM ?_ | refine q_atG ?_ | refine q_atR ?_
   | refine q_build0 ?_ | refine q_build ?_ | refine q_buildS ?_ | refine q_app fun _ => ?_ | refine q_callB (hb') (fun _ => ?_) (fun _ => ?_) | refine q_call (hb') ?_)
  refine ⟨hil, out ++ [wIo a (recB ⟨p, b2, b3, b4, b5, b6, b7, b8⟩)], a, by simp [hol], .inr hab, by rw [hgo, List.append_assoc]; rfl, hge, gj, by rw [List.map_append]; rfl, rfl, rfl, rfl, rfl, rfl, rfl, by show AV.int _ _ = AV.int _ _; congr 1, trivial⟩
 ·have hin : i = anew.length := by omega
  repeat' (first
   | refine q_s ?_ | refine q_z ?_ | refine q_b ?_ | refine q_mv ?_ | refine q_faddr ?_ | refine q_faddrI ?_ | refine q_load ?_ | refine q_loadI ?_ | refine q_loadR ?_ | refine q_loadM ?_
   | refine q_cmp ?_ | refine q_cmp2 (fun _ => ?_) (fun _ => ?_) | refine q_add ?_ | refine q_ex ?_ | refine q_store ?_ | refine q_storeR ?_ | refine q_storeM ?_ | refine q_box ?_
   | refine q_at ?_ | refine q_atM ?_ | refine q_atG ?_ | refine q_atR ?_ | refine q_build0 ?_ | refine q_build ?_ | refine q_buildS ?_ | refine q_app fun _ => ?_)
  subst hin
  rw [List.drop_length] at hgo hge
  simp only [chainL, chainE, List.append_nil] at hgo hge
  rw [hgo, hge]
  exact ⟨rfl, hol, g1, rfl, rfl, rfl, rfl, trivial⟩
theorem recs_loop7 {k : Nat} {anew : List Rec} {free : List Nat} {f3 : Bool} {p0 : Nat} {T : Tmps} {H : Heap} (hk : 1000050 ≤ k) (hm : anew.length < 1000) (hfl : anew.length ≤ free.length) (hfl2 : free.length ≤ 4096) (hro : ∀ r ∈ anew, ({ r with next := 0 } : Rec).ok) (hf : ∀ a ∈ free, 2 ≤ a ∧ a < 4096) (hp : ptrOk p0)
  (hj : H 7 = ⟨1, false, .row 8 (anew.map Rec.av)⟩) (h1 : H 1 = ⟨1, false, .row 3 []⟩)
  (hT : Has T [(5, .islc false f3 1 (NL free)), (12, .slc 1 1 0 3 0 0 none), (13, .int .i64 p0), (16, .slc 7 1 anew.length 8 0 anew.length none), (55, .slc 7 1 anew.length 8 0 anew.length none), (56, .int .i64 anew.length), (57, .int .i64 0)]) :
  W (aexec (CF k) noX 0 k (.loop commit_Records_l0) T H) (fun ex T' H' => ex = .exit 0 ∧ (chainL anew free p0).length = anew.length ∧ H' 1 = ⟨1, false, .row 3 ((chainL anew free p0).map IoV.av)⟩ ∧
   Has T' [(5, .islc false f3 1 (NL free)), (12, .slc 1 1 anew.length 3 0 anew.length none), (13, .int .i64 (chainE anew free p0)), (16, .slc 7 1 anew.length 8 0 anew.length none)]) := by
 refine w_for anew.length (fun i T' H' => ∃ (out : List IoV) (p : Nat), out.length = i ∧ ptrOk p ∧ chainL anew free p0 = out ++ chainL (anew.drop i) (free.drop i) p ∧ chainE anew free p0 = chainE (anew.drop i) (free.drop i) p ∧ H' 7 = ⟨1, false, .row 8 (anew.map Rec.av)⟩ ∧ H' 1 = ⟨1, false, .row 3 (out.map IoV.av)⟩ ∧
   Has T' [(5, .islc false f3 1 (NL free)), (12, .slc 1 1 i 3 0 i none), (13, .int .i64 p), (16, .slc 7 1 anew.length 8 0 anew.length none), (55, .slc 7 1 anew.length 8 0 anew.length none), (56, .int .i64 anew.length), (57, .int .i64 (i : Nat))])
  ⟨[], p0, rfl, hp, rfl, rfl, hj, h1, hT⟩ (by omega) ?_
 rintro i T H hi ⟨out, p, hol, hpp, hgo, hge, gj, g1, hT⟩
 rw [hT.eq]
 simp only [over]
 unfold commit_Records_l0
 by_cases hil : i < anew.length
 ·have hif : i < free.length := by omega
  rw [List.drop_eq_getElem_cons hil, List.drop_eq_getElem_cons hif] at hgo hge
  obtain ⟨a, ha⟩ : ∃ a, a = free[i] := ⟨_, rfl⟩
  obtain ⟨⟨b1, b2, b3, b4, b5, b6, b7, b8⟩, hr⟩ : ∃ r, r = anew[i] := ⟨_, rfl⟩
  have hab := hf free[i] (List.getElem_mem hif)
  have hrk := hro anew[i] (List.getElem_mem hil)
  rw [← ha, ← hr] at hgo hge
  rw [← ha] at hab
  rw [← hr] at hrk
  simp only [chainL, chainE] at hgo hge
  have hok : (⟨p, b2, b3, b4, b5, b6, b7, b8⟩ : Rec).ok := ⟨hpp, hrk.2⟩
  have hb := c_record_Bytes k (by omega) ⟨p, b2, b3, b4, b5, b6, b7, b8⟩
  rw [if_pos hok] at hb
  have hb' : FnV (CF k) n_record_Bytes [.agg [.int .i64 p, .int .i64 b2, .int .i64 b3, .int .i64 b4, .int .i64 b5, .int .i64 b6, .int .i64 b7, .int .i64 b8]] (.tup [.islc false false 1 (BL (recB ⟨p, b2, b3, b4, b5, b6, b7, b8⟩)), .int .i64 0]) := hb
  have hml : (anew.map Rec.av).length = anew.length := List.length_map _
  have he : (anew.map Rec.av)[0 + (i : Int).toNat]? = some (.agg [.int .i64 b1, .int .i64 b2, .int .i64 b3, .int .i64 b4, .int .i64 b5, .int .i64 b6, .int .i64 b7, .int .i64 b8]) := by
   rw [show 0 + (i : Int).toNat = i by omega, List.getElem?_map, List.getElem?_eq_getElem hil, ← hr]; rfl
  have ha2 : free.getD (i : Int).toNat default = a := by rw [Int.toNat_natCast, ha]; simp [hif]
  have hol2 : (out.map IoV.av).length = i := by rw [List.length_map]; exact hol
  repeat' (first
   | refine q_s ?_ | refine q_z ?_ | refine q_b ?_ | refine wo_atR rfl rfl (by exact gj) hml (by omega) (by omega) (by omega) rfl rfl ?_
   | refine wo_loadR (.agg [.int .i64 b1, .int .i64 b2, .int .i64 b3, .int .i64 b4, .int .i64 b5, .int .i64 b6, .int .i64 b7, .int .i64 b8]) rfl (by exact gj) hml he (Nat.le_of_ble_eq_true rfl) rfl rfl rfl ?_
   | refine wo_atV (enc := nav) a rfl rfl (by omega) (by omega) ha2 rfl rfl ?_ | refine wo_app1 rfl rfl rfl (by exact g1) hol2 rfl (by omega) rfl rfl (fun _ => ?_) | refine q_mv ?_
   | refine q_faddr ?_ | refine q_faddrI ?_ | refine q_load ?_ | refine q_loadI ?_ | refine q_loadR ?_ | refine q_loadM ?_ | refine q_cmp ?_ | refine q_cmp2 (fun _ => ?_) (fun _ => ?_)
   | refine q_add ?_ | refine q_ex ?_ | refine q_store ?_ | refine q_storeR ?_ | refine q_storeM ?_ | refine q_box ?_ | refine q_at ?_ | refine q_atM ?_ | refine q_atG ?_ | refine q_atR ?_
   | refine q_build0 ?_ | refine q_build ?_ | refine q_buildS ?_ | refine q_app fun _ => ?_ | refine q_callB (hb') (fun _ => ?_) (fun _ => ?_) | refine q_call (hb') ?_)
  refine ⟨hil, out ++ [wIo a (recB ⟨p, b2, b3, b4, b5, b6, b7, b8⟩)], a, by simp [hol], .inr hab, by rw [hgo, List.append_assoc]; rfl, hge, gj, by rw [List.map_append]; rfl, rfl, rfl, rfl, rfl, rfl, rfl, by show AV.int _ _ = AV.int _ _; congr 1, trivial⟩
 ·have hin : i = anew.length := by omega
  repeat' (first
   | refine q_s ?_ | refine q_z ?_ | refine q_b ?_ | refine q_mv ?_ | refine q_faddr ?_ | refine q_faddrI ?_ | refine q_load ?_ | refine q_loadI ?_ | refine q_loadR ?_ | refine q_loadM ?_
   | refine q_cmp ?_ | refine q_cmp2 (fun _ => ?_) (fun _ => ?_) | refine q_add ?_ | refine q_ex ?_ | refine q_store ?_ | refine q_storeR ?_ | refine q_storeM ?_ | refine q_box ?_
   | refine q_at ?_ | refine q_atM ?_ | refine q_atG ?_ | refine q_atR ?_ | refine q_build0 ?_ | refine q_build ?_ | refine q_buildS ?_ | refine q_app fun _ => ?_)
  subst hin
  rw [List.drop_length] at hgo hge
  simp only [chainL, chainE, List.append_nil] at hgo hge
  rw [hgo, hge]
  exact ⟨rfl, hol, g1, rfl, rfl, rfl, rfl, trivial⟩
end Go.Proofs.Ytkaiiopoilpjeaa
