/- What the functions answer: are lists of commands alike; are they more than is played? -/
import Derived.Test.YtnakicjkolpacaaDoorS34
import Derived.Test.YtnakicjkolpacaaDoorS15
set_option linter.unusedSimpArgs false
set_option linter.unusedVariables false
set_option maxRecDepth 10000
set_option maxHeartbeats 16000000
namespace Go.Proofs.YtnakicjkolpacaaDoor
open Go.AI
attribute [local irreducible] aops aexec acall aiter aop W WO

variable {xf : ExtF} {gf : CallF}

theorem Commands_loop (k : Nat) (hk : 1000000 ≤ k) {fuel : Nat} {T : Tmps} {H : Heap} {t f t' f' : Bool} {ea eb : List AV} {a b : List Cmd} (hab : a.length = b.length) (hl : a.length < 1000000) (hk2 : 1000000 ≤ fuel) (hea : CsR ea a) (heb : CsR eb b) (hda : smallC a) (hdb : smallC b)
    (hT : Has T [(0, .islc t f 9 ea), (1, .islc t' f' 9 eb), (5, .int .i64 0)]) :
    W (aexec (acall B xf gf (k + 2)) xf 0 fuel (.loop keep_Commands_l0) T H) (fun ex T' H' => (ex = .ret ∧ a ≠ b ∧ T' 4 = .bool false) ∨ (ex = .exit 0 ∧ a = b)) := by
  refine w_for a.length (fun i T' H' => a.take i = b.take i ∧ Has T' [(0, .islc t f 9 ea), (1, .islc t' f' 9 eb), (5, .int .i64 (i : Nat))]) ⟨by simp, hT⟩ (by omega) ?_
  rintro i T H hi ⟨hgo, hT⟩
  have hla := hea.len
  rw [hT.eq]
  simp only [over]
  unfold keep_Commands_l0
  by_cases hil : i < a.length
  · obtain ⟨e, he, hcr⟩ := hea.get (List.getElem?_eq_getElem hil)
    obtain ⟨e', he', hcr'⟩ := heb.get (List.getElem?_eq_getElem (show i < b.length by omega))
    have he2 : ea[(i : Int).toNat]? = some e := by simpa using he
    have he2' : eb[(i : Int).toNat]? = some e' := by simpa using he'
    have h1 := hda _ (List.getElem_mem hil)
    have h2 := hdb _ (List.getElem_mem (show i < b.length by omega))
    obtain ⟨c, hcd⟩ : ∃ c, c = a[i] := ⟨_, rfl⟩
    obtain ⟨d, hdd⟩ : ∃ d, d = b[i]'(by omega) := ⟨_, rfl⟩
    rw [← hcd] at hcr h1
    rw [← hdd] at hcr' h2
    obtain ⟨t0, f0, s0, rfl, hs0, _⟩ := hcr
    obtain ⟨t1, f1, s1, rfl, hs1, _⟩ := hcr'
    obtain ⟨r, hr, hF⟩ := e_keep_Command (xf := xf) (gf := gf) k hk t0 f0 t1 f1 s0 s1 c d (by omega) (by omega) hs0 hs1
    unfold Cmd.av at hF he2 he2'
    repeat' (first
     | refine q_s ?_ | refine q_z ?_ | refine q_b ?_ | refine wo_lenG (n := a.length) rfl hla rfl rfl ?_ | refine wo_atG rfl rfl (by omega) he2 rfl rfl ?_
      | refine wo_atG rfl rfl (by omega) he2' rfl rfl ?_ | refine q_callB hF (fun _ => ?_) (fun _ => ?_) | refine q_mv ?_ | refine q_load ?_ | refine q_loadI ?_ | refine q_loadR ?_
      | refine q_cmp ?_ | refine q_cmp2 (fun _ => ?_) (fun _ => ?_) | refine q_add ?_ | refine q_notT ?_ | refine q_notF ?_ | refine q_len ?_ | refine q_lenS ?_ | refine q_len0 ?_
      | refine q_at ?_)
    · rename_i h
      have hcd2 := hr.1 h
      refine ⟨hil, ?_, rfl, rfl, by show AV.int _ _ = AV.int _ _; congr 1, trivial⟩
      rw [List.take_succ_eq_append_getElem hil, List.take_succ_eq_append_getElem (by omega), hgo, ← hcd, ← hdd, hcd2]
    · rename_i h
      refine .inl ⟨rfl, fun hh => ?_, rfl⟩
      have : c = d := by rw [hcd, hdd]; simp only [hh]
      rw [hr.2 this] at h
      cases h
  · have hil2 : i = a.length := by omega
    repeat' (first
     | refine q_s ?_ | refine q_z ?_ | refine q_b ?_ | refine wo_lenG (n := a.length) rfl hla rfl rfl ?_ | refine q_mv ?_ | refine q_load ?_ | refine q_loadI ?_ | refine q_loadR ?_
      | refine q_cmp ?_ | refine q_cmp2 (fun _ => ?_) (fun _ => ?_) | refine q_add ?_ | refine q_notT ?_ | refine q_notF ?_ | refine q_len ?_ | refine q_lenS ?_ | refine q_len0 ?_
      | refine q_at ?_)
    refine .inr ⟨rfl, ?_⟩
    rw [hil2, List.take_length, hab, List.take_length] at hgo
    exact hgo

theorem e_keep_Commands (k : Nat) (hk : 1000000 ≤ k) (t f t' f' : Bool) (s s' : Nat) (ea eb : List AV) (a b : List Cmd) (hl : a.length < 1000000) (hea : CsR ea a) (heb : CsR eb b) (hda : smallC a) (hdb : smallC b) (hs : s = 9 ∨ a = []) (hs' : s' = 9 ∨ b = []) :
    ∃ r, (r = true ↔ a = b) ∧ FnV (acall B xf gf (k + 3)) n_keep_Commands [.islc t f s ea, .islc t' f' s' eb] (.bool r) := by
  have hla := hea.len
  have hlb := heb.len
  by_cases hab : a.length = b.length
  · by_cases hn : a = []
    · subst hn
      have hbn : b = [] := List.eq_nil_of_length_eq_zero hab.symm
      subst hbn
      refine ⟨true, by simp, ?_⟩
      refine fn_of B_keep_Commands rfl ?_
      unfold keep_Commands
      repeat' (first
       | refine q_s ?_ | refine q_z ?_ | refine q_b ?_ | refine wo_lenG (n := 0) rfl hla rfl rfl ?_ | refine wo_lenG (n := 0) rfl hlb rfl rfl ?_ | refine q_mv ?_ | refine q_load ?_
        | refine q_loadI ?_ | refine q_loadR ?_ | refine q_cmp ?_ | refine q_cmp2 (fun _ => ?_) (fun _ => ?_) | refine q_add ?_ | refine q_notT ?_ | refine q_notF ?_ | refine q_len ?_
        | refine q_lenS ?_ | refine q_len0 ?_ | refine q_at ?_)
      refine w_iter0 ?_
      refine w_iter1 ?_
      repeat' (first
       | refine q_s ?_ | refine q_z ?_ | refine q_b ?_ | refine wo_lenG (n := 0) rfl hla rfl rfl ?_ | refine wo_lenG (n := 0) rfl hlb rfl rfl ?_ | refine q_mv ?_ | refine q_load ?_
        | refine q_loadI ?_ | refine q_loadR ?_ | refine q_cmp ?_ | refine q_cmp2 (fun _ => ?_) (fun _ => ?_) | refine q_add ?_ | refine q_notT ?_ | refine q_notF ?_ | refine q_len ?_
        | refine q_lenS ?_ | refine q_len0 ?_ | refine q_at ?_)
      exact ⟨Or.inr rfl, _, rfl, rfl⟩
    · have hs1 : s = 9 := by rcases hs with h | h; exact h; exact absurd h hn
      have hs2 : s' = 9 := by
        rcases hs' with h | h
        · exact h
        · subst h; exact absurd (List.eq_nil_of_length_eq_zero hab) hn
      subst hs1 hs2
      obtain ⟨r, hr⟩ : ∃ r : Bool, (r = true ↔ a = b) := by
        by_cases h : a = b
        · exact ⟨true, by simp [h]⟩
        · exact ⟨false, by simp [h]⟩
      refine ⟨r, hr, ?_⟩
      refine fn_of B_keep_Commands rfl ?_
      unfold keep_Commands
      repeat' (first
       | refine q_s ?_ | refine q_z ?_ | refine q_b ?_ | refine wo_lenG (n := a.length) rfl hla rfl rfl ?_ | refine wo_lenG (n := b.length) rfl hlb rfl rfl ?_ | refine q_mv ?_
        | refine q_load ?_ | refine q_loadI ?_ | refine q_loadR ?_ | refine q_cmp ?_ | refine q_cmp2 (fun _ => ?_) (fun _ => ?_) | refine q_add ?_ | refine q_notT ?_ | refine q_notF ?_
        | refine q_len ?_ | refine q_lenS ?_ | refine q_len0 ?_ | refine q_at ?_)
      refine (Commands_loop (xf := xf) (gf := gf) k hk (t := t) (f := f) (t' := t') (f' := f') hab hl (by omega) hea heb hda hdb ?_).mono ?_
      · exact ⟨rfl, rfl, rfl, trivial⟩
      rintro ex T2 H2 (⟨rfl, hne, h4⟩ | ⟨rfl, he⟩)
      · refine ⟨Or.inr rfl, _, rfl, ?_⟩
        show fz true 6 H2 (T2 4) = _
        rw [h4, show r = false from Bool.eq_false_iff.2 fun h => hne (hr.1 h)]
        rfl
      · rw [hr.2 he]
        show W _ _
        repeat' (first
         | refine q_s ?_ | refine q_z ?_ | refine q_b ?_ | refine q_mv ?_ | refine q_load ?_ | refine q_loadI ?_ | refine q_loadR ?_ | refine q_cmp ?_
          | refine q_cmp2 (fun _ => ?_) (fun _ => ?_) | refine q_add ?_ | refine q_notT ?_ | refine q_notF ?_ | refine q_len ?_ | refine q_lenS ?_ | refine q_len0 ?_ | refine q_at ?_)
        exact ⟨Or.inr rfl, _, rfl, rfl⟩
  · refine ⟨false, ⟨fun h => (by cases h), fun h => absurd (by rw [h]) hab⟩, ?_⟩
    refine fn_of B_keep_Commands rfl ?_
    unfold keep_Commands
    repeat' (first
     | refine q_s ?_ | refine q_z ?_ | refine q_b ?_ | refine wo_lenG (n := a.length) rfl hla rfl rfl ?_ | refine wo_lenG (n := b.length) rfl hlb rfl rfl ?_ | refine q_mv ?_ | refine q_load ?_
      | refine q_loadI ?_ | refine q_loadR ?_ | refine q_cmp ?_ | refine q_cmp2 (fun _ => ?_) (fun _ => ?_) | refine q_add ?_ | refine q_notT ?_ | refine q_notF ?_ | refine q_len ?_
      | refine q_lenS ?_ | refine q_len0 ?_ | refine q_at ?_)
    exact ⟨Or.inr rfl, _, rfl, rfl⟩

def heavyB (l : List Cmd) : Bool := decide (60 < l.length) || l.any fun c => decide (1000 < c.data.length)
theorem heavyB_false {l : List Cmd} (h : heavyB l = false) : l.length ≤ 60 ∧ ∀ c ∈ l, c.data.length ≤ 1000 := by
  unfold heavyB at h
  simp only [Bool.or_eq_false_iff, decide_eq_false_iff_not, List.any_eq_false, decide_eq_true_eq] at h
  exact ⟨by omega, fun c hc => by have := h.2 c hc; omega⟩

theorem e_law_Heavy (k : Nat) (hk : 1000 ≤ k) (t f : Bool) (es : List AV) (l : List Cmd) (hes : CsR es l) :
    FnV (acall B xf gf (k + 1)) n_law22_Heavy [.islc t f 9 es] (.bool (heavyB l)) := by
  have hlen := hes.len
  refine fn_of B_law22_Heavy rfl ?_
  unfold law22_Heavy
  by_cases h60 : 60 < l.length
  · have hh : heavyB l = true := by simp [heavyB, h60]
    rw [hh]
    repeat' (first
     | refine q_s ?_ | refine q_z ?_ | refine q_b ?_ | refine wo_lenG (n := l.length) rfl hlen rfl rfl ?_ | refine q_mv ?_ | refine q_faddr ?_ | refine q_load ?_ | refine q_loadI ?_
      | refine q_loadR ?_ | refine q_cmp ?_ | refine q_cmp2 (fun _ => ?_) (fun _ => ?_) | refine q_add ?_ | refine q_len ?_ | refine q_lenS ?_ | refine q_len0 ?_ | refine q_at ?_)
    exact ⟨Or.inr rfl, _, rfl, rfl⟩
  · have hh : heavyB l = l.any fun c => decide (1000 < c.data.length) := by simp [heavyB, h60]
    rw [hh]
    repeat' (first
     | refine q_s ?_ | refine q_z ?_ | refine q_b ?_ | refine wo_lenG (n := l.length) rfl hlen rfl rfl ?_ | refine q_mv ?_ | refine q_faddr ?_ | refine q_load ?_ | refine q_loadI ?_
      | refine q_loadR ?_ | refine q_cmp ?_ | refine q_cmp2 (fun _ => ?_) (fun _ => ?_) | refine q_add ?_ | refine q_len ?_ | refine q_lenS ?_ | refine q_len0 ?_ | refine q_at ?_)
    refine W.mono (Q := fun ex T' H' => (ex = .ret ∧ (l.any fun c => decide (1000 < c.data.length)) = true ∧ T' 2 = .bool true) ∨ (ex = .exit 0 ∧ (l.any fun c => decide (1000 < c.data.length)) = false)) ?_ ?_
    · refine w_for l.length (fun i T' H' => (l.any fun c => decide (1000 < c.data.length)) = ((l.drop i).any fun c => decide (1000 < c.data.length)) ∧ Has T' [(0, .islc t f 9 es), (3, .int .i64 (i : Nat))]) ⟨by simp, rfl, rfl, trivial⟩ (by omega) ?_
      rintro i T H hi ⟨hgo, hT⟩
      rw [hT.eq]
      simp only [over]
      by_cases hil : i < l.length
      · rw [List.drop_eq_getElem_cons hil, List.any_cons] at hgo
        obtain ⟨e, he, hcr⟩ := hes.get (List.getElem?_eq_getElem hil)
        have he2 : es[(i : Int).toNat]? = some e := by simpa using he
        obtain ⟨c, hcd⟩ : ∃ c, c = l[i] := ⟨_, rfl⟩
        rw [← hcd] at hcr hgo
        obtain ⟨t0, f0, s0, rfl, _⟩ := hcr
        unfold Cmd.av at he2
        repeat' (first
         | refine q_s ?_ | refine q_z ?_ | refine q_b ?_ | refine wo_lenG (n := l.length) rfl hlen rfl rfl ?_ | refine wo_atG rfl rfl (by omega) he2 rfl rfl ?_ | refine q_faddrI ?_
          | refine q_len (l := c.data) ?_ | refine q_mv ?_ | refine q_faddr ?_ | refine q_load ?_ | refine q_loadI ?_ | refine q_loadR ?_ | refine q_cmp ?_
          | refine q_cmp2 (fun _ => ?_) (fun _ => ?_) | refine q_add ?_ | refine q_len ?_ | refine q_lenS ?_ | refine q_len0 ?_ | refine q_at ?_)
        · rename_i h
          simp only [cmpP] at h
          exact .inl ⟨rfl, by rw [hgo, decide_eq_true (by omega)]; rfl, rfl⟩
        · rename_i h
          simp only [cmpP] at h
          refine ⟨hil, ?_, rfl, by show AV.int _ _ = AV.int _ _; congr 1, trivial⟩
          rw [hgo, decide_eq_false (by omega)]; rfl
      · have hil2 : i = l.length := by omega
        repeat' (first
         | refine q_s ?_ | refine q_z ?_ | refine q_b ?_ | refine wo_lenG (n := l.length) rfl hlen rfl rfl ?_ | refine q_mv ?_ | refine q_faddr ?_ | refine q_load ?_ | refine q_loadI ?_
          | refine q_loadR ?_ | refine q_cmp ?_ | refine q_cmp2 (fun _ => ?_) (fun _ => ?_) | refine q_add ?_ | refine q_len ?_ | refine q_lenS ?_ | refine q_len0 ?_ | refine q_at ?_)
        refine .inr ⟨rfl, ?_⟩
        rw [hgo, hil2, List.drop_length]; rfl
    rintro ex T2 H2 (⟨rfl, ha, h2⟩ | ⟨rfl, ha⟩)
    · refine ⟨Or.inr rfl, _, rfl, ?_⟩
      show fz true 6 H2 (T2 2) = _
      rw [h2, ha]; rfl
    · rw [ha]
      show W _ _
      repeat' (first
       | refine q_s ?_ | refine q_z ?_ | refine q_b ?_ | refine q_mv ?_ | refine q_faddr ?_ | refine q_load ?_ | refine q_loadI ?_ | refine q_loadR ?_ | refine q_cmp ?_
        | refine q_cmp2 (fun _ => ?_) (fun _ => ?_) | refine q_add ?_ | refine q_len ?_ | refine q_lenS ?_ | refine q_len0 ?_ | refine q_at ?_)
      exact ⟨Or.inr rfl, _, rfl, rfl⟩

end Go.Proofs.YtnakicjkolpacaaDoor
