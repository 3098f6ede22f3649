/- What the functions answer: the reader of streams. -/
import Derived.Test.YtnakicjkolpacaaDoorS30
import Derived.Test.YtnakicjkolpacaaDoorS14
set_option linter.unusedSimpArgs false
set_option linter.unusedVariables false
set_option maxRecDepth 10000
set_option maxHeartbeats 16000000
namespace Go.Proofs.YtnakicjkolpacaaDoor
open Go.AI

theorem fz_av (out : Bool) (n : Nat) (H : Heap) (f : Bool) (s : Nat) (c : Cmd) : fz out (n + 2) H (c.av false f s) = c.av false f s := by cases out <;> rfl
theorem fz_cvs (out : Bool) (n : Nat) (H : Heap) (l : List CV) : (l.map CV.av).map (fz out (n + 2) H) = l.map CV.av := by
  rw [List.map_map]
  exact List.map_congr_left fun x _ => fz_av out n H x.f x.s x.c
theorem cv_norefs : ∀ l : List CV, norefsL (l.map CV.av) = true
  | [] => rfl
  | x :: l => by simp only [List.map_cons, norefsL, Bool.and_eq_true]; exact ⟨rfl, cv_norefs l⟩

attribute [local irreducible] aops aexec acall aiter aop W WO

variable {xf : ExtF} {gf : CallF}

/-- The reader's commands, where they lie. -/
def PS.lv (p : PS) : AV := if p.l = [] then .islc false true 0 [] else .slc 4 1 p.l.length 9 0 p.l.length none
def PSat (H : Heap) (p : PS) : Prop := H 0 = ⟨1, false, .row 3 [.agg [p.lv, .int .i64 p.next, .int .i64 p.sum]]⟩ ∧ (if p.l = [] then (H 4).gen = 0 else H 4 = ⟨1, false, .row 9 (p.l.map CV.av)⟩)
def PS.fit (p : PS) : Prop := (∀ x ∈ p.l, x.ok ∧ chkP x.c) ∧ (0 ≤ p.next ∧ p.next ≤ 65536 + p.l.length) ∧ (0 ≤ p.sum ∧ p.sum ≤ 4294967295) ∧ p.l.length < 1000000

theorem chk_small {c : Cmd} (h : chkP c) : c.data.length ≤ 512 ∧ (c.kind = 1 → 0 ≤ c.count ∧ c.count ≤ 65535) ∧ (c.kind = 6 → 0 ≤ c.count ∧ c.count ≤ 65535) := by
  rcases chkP_inv h with ⟨h0, h⟩ | ⟨h0, h⟩ | ⟨h0, h⟩ | ⟨h0, h⟩ | ⟨h0, h⟩ | ⟨h0, h⟩
  · obtain ⟨_, _, h1, _, _, _, h2⟩ := h
    exact ⟨by rw [h2]; simp, fun _ => h1, fun h => by omega⟩
  · exact ⟨h.1.2.2, fun h => by omega, fun h => by omega⟩
  · exact ⟨by rw [h.2.2.2.2.2.2.2]; simp, fun h => by omega, fun h => by omega⟩
  · exact ⟨by rw [h.2.2.2.2.2.2.2]; simp, fun h => by omega, fun h => by omega⟩
  · exact ⟨by rw [h.2.2.2.2.2.2.2]; simp, fun h => by omega, fun h => by omega⟩
  · exact ⟨by rw [h.2.2.2.2.2.2.2]; simp, fun h => by omega, fun _ => h.1⟩

theorem takeP_fit {p : PS} {x : CV} (h : p.fit) (hx : x.ok) (hc : chkP x.c) (hl : p.l.length + 1 < 1000000) : (takeP p x).fit := by
  obtain ⟨h1, h2, h3, h4⟩ := h
  have hcnt := (chk_small hc).2.1
  refine ⟨?_, ?_, ?_, by simp [takeP]; omega⟩
  · intro y hy
    simp only [takeP, List.mem_append, List.mem_singleton] at hy
    rcases hy with hy | rfl
    · exact h1 y hy
    · exact ⟨hx, hc⟩
  · show 0 ≤ (if x.c.kind = 1 then x.c.count else p.next) + 1 ∧ (if x.c.kind = 1 then x.c.count else p.next) + 1 ≤ 65536 + ((p.l ++ [x]).length : Nat)
    simp only [List.length_append, List.length_cons, List.length_nil]
    split
    · rename_i hk
      have := hcnt hk
      omega
    · omega
  · show 0 ≤ (if x.c.kind = 1 ∨ x.c.kind = 6 then p.sum else crcMore p.sum (payB x.c)) ∧ (if x.c.kind = 1 ∨ x.c.kind = 6 then p.sum else crcMore p.sum (payB x.c)) ≤ 4294967295
    split
    · exact h3
    · exact crcMore_range2 _ _

theorem psat_take {H' : Heap} {l : List CV} {next sum a b : Int} {x : CV} {g : Nat} (hg : g = 1) (h0 : H' 0 = ⟨1, false, .row 3 [.agg [.slc 4 g (l.length + 1) 9 0 (l.length + 1) none, .int .i64 (a + 1), .int .i64 b]]⟩)
    (h4 : H' 4 = ⟨g, false, .row 9 (l.map CV.av ++ [x.av])⟩) (ha : a = if x.c.kind = 1 then x.c.count else next) (hb : b = if x.c.kind = 1 ∨ x.c.kind = 6 then sum else crcMore sum (payB x.c)) : PSat H' (takeP ⟨l, next, sum⟩ x) := by
  subst hg
  have hne : l ++ [x] ≠ [] := by simp
  unfold PSat PS.lv takeP
  simp only [if_neg hne]
  refine ⟨?_, ?_⟩
  · rw [h0, ← ha, ← hb]
    simp
  · rw [h4]
    simp

theorem take_no {H H' : Heap} {p : PS} {x : CV} {seq v : Int} (hE : takeE p x.c seq = v) (hv : v ≠ 0) (hP : PSat H' p) (h1 : H' 1 = H 1) :
    AV.int .i64 v = .int .i64 (takeE p x.c seq) ∧ PSat H' (if takeE p x.c seq = 0 then takeP p x else p) ∧ H' 1 = H 1 := by
  rw [hE, if_neg hv]
  exact ⟨rfl, hP, h1⟩
theorem take_yes {H H' : Heap} {p : PS} {x : CV} {seq : Int} (hE : takeE p x.c seq = 0) (hP : PSat H' (takeP p x)) (h1 : H' 1 = H 1) :
    AV.int .i64 0 = .int .i64 (takeE p x.c seq) ∧ PSat H' (if takeE p x.c seq = 0 then takeP p x else p) ∧ H' 1 = H 1 := by
  rw [hE, if_pos rfl]
  exact ⟨rfl, hP, h1⟩

/-- The frame is taken, or why not. -/
theorem e_takes (k : Nat) (hk : 1000000 ≤ k) (H : Heap) (p : PS) (x : CV) (seq : Int) (hp : p.fit) (hx : x.ok) (hc : chkP x.c) (hP : PSat H p) :
    ∃ u H', acall B xf gf (k + 6) n___stream_parser__takes 2 [.ptr 0 1 1 3 0 0, x.av, .int .i64 seq] H = some (u, H') ∧ u = .int .i64 (takeE p x.c seq) ∧ PSat H' (if takeE p x.c seq = 0 then takeP p x else p) ∧ H' 1 = H 1 := by
  obtain ⟨c, f, s⟩ := x
  obtain ⟨l, next, sum⟩ := p
  obtain ⟨h1, h2, h3, h4⟩ := hp
  simp only at h1 h2 h3 h4 hc
  unfold CV.ok at hx
  simp only at hx
  obtain ⟨hP0, hP4⟩ := hP
  simp only [PS.lv] at hP0 hP4
  have hcs := chk_small hc
  have hp := e_frame_Payload (xf := xf) (gf := gf) k hk false f s c (by omega) hx (.inl rfl)
  rw [if_pos hc] at hp
  have hpl := payB_le hc
  have hm := fun f => e_crc_More (xf := xf) (gf := gf) (k + 4) (by omega) false f (payB c) sum (by omega) h3
  refine acall_of_w B___stream_parser__takes rfl ?_
  unfold __stream_parser__takes CV.av
  simp only
  unfold Cmd.av at hp ⊢
  cases l with
  | nil =>
    simp only [if_true] at hP0 hP4
    have hE : ∀ v, (takeE ⟨[], next, sum⟩ c seq = v) ↔ (if c.kind ≠ 1 ∨ seq ≠ next then (14 : Int) else 0) = v := by
      intro v
      unfold takeE
      simp only [true_iff]
      by_cases h : c.kind ≠ 1 ∨ seq ≠ next
      · rw [if_pos h, if_pos h]
      · rw [if_neg h, if_neg h, if_neg (by omega)]
    repeat' (first
     | refine q_s ?_ | refine q_z ?_ | refine q_b ?_ | refine q_nilc ?_ | refine q_loadR ?_ rfl hP0 | refine q_storeR ?_ rfl hP0 | refine q_call hp ?_ | refine q_call (hm _) ?_
      | refine wo_app1N rfl rfl rfl rfl rfl rfl (fun _ => ?_) | refine q_n ?_ | refine q_nn ?_ | refine q_mv ?_ | refine q_faddr ?_ | refine q_load ?_ | refine q_loadI ?_ | refine q_loadR ?_
      | refine q_cmp ?_ | refine q_cmp2 (fun _ => ?_) (fun _ => ?_) | refine q_add ?_ | refine q_sub ?_ | refine q_pickT ?_ | refine q_pickF ?_ | refine q_len ?_ | refine q_lenS ?_
      | refine q_len0 ?_ | refine q_ex ?_ | refine q_store ?_ | refine q_storeR ?_ | refine q_box ?_ | refine q_eqb ?_ | refine q_at ?_ | refine q_buildS ?_ | refine q_app fun _ => ?_)
    all_goals (refine ⟨Or.inr rfl, _, rfl, ?_⟩)
    · exact take_no (p := ⟨[], next, sum⟩) (x := ⟨c, f, s⟩) ((hE 14).2 (if_pos (by omega))) (by decide) ⟨hP0, hP4⟩ rfl
    · exact take_yes (p := ⟨[], next, sum⟩) (x := ⟨c, f, s⟩) ((hE 0).2 (if_neg (by omega))) (psat_take (g := (H 4).gen + 1) (by omega) (l := []) (a := c.count) (b := sum) rfl rfl (if_pos (by assumption)).symm (if_pos (.inl (by assumption))).symm) rfl
    · exact take_no (p := ⟨[], next, sum⟩) (x := ⟨c, f, s⟩) ((hE 14).2 (if_pos (by omega))) (by decide) ⟨hP0, hP4⟩ rfl
  | cons x0 l =>
    simp only [List.cons_ne_nil, if_false] at hP0 hP4
    have hlp : (x0 :: l).length = l.length + 1 := rfl
    have hE : ∀ v, (takeE ⟨x0 :: l, next, sum⟩ c seq = v) ↔ (if c.kind = 1 ∨ seq ≠ next then (14 : Int) else if c.kind = 6 then (if c.count ≠ next - 1 then 14 else if x0.c.count = 0 ∧ c.digest ≠ sum then 15 else 0) else 0) = v := by
      intro v
      unfold takeE
      simp only [List.cons_ne_nil, false_iff, Classical.not_not]
      rfl
    repeat' (first
     | refine q_s ?_ | refine q_z ?_ | refine q_b ?_ | refine q_nilc ?_ | refine q_loadR ?_ rfl hP0 | refine q_storeR ?_ rfl hP0 | refine q_call hp ?_ | refine q_call (hm _) ?_
      | refine wo_app1 rfl rfl rfl (by exact hP4) (by simp) rfl (by omega) rfl rfl (fun _ => ?_) | refine wo_atR rfl rfl (by exact hP4) (by simp) (by omega) (by omega) (by omega) rfl rfl ?_
      | refine wo_loadR (.int .i64 x0.c.count) rfl (by exact hP4) (by simp) rfl (Nat.le_of_ble_eq_true rfl) rfl rfl rfl ?_ | refine q_n ?_ | refine q_nn ?_ | refine q_mv ?_ | refine q_faddr ?_
      | refine q_load ?_ | refine q_loadI ?_ | refine q_loadR ?_ | refine q_cmp ?_ | refine q_cmp2 (fun _ => ?_) (fun _ => ?_) | refine q_add ?_ | refine q_sub ?_ | refine q_pickT ?_
      | refine q_pickF ?_ | refine q_len ?_ | refine q_lenS ?_ | refine q_len0 ?_ | refine q_ex ?_ | refine q_store ?_ | refine q_storeR ?_ | refine q_box ?_ | refine q_eqb ?_ | refine q_at ?_
      | refine q_buildS ?_ | refine q_app fun _ => ?_)
    all_goals (refine ⟨Or.inr rfl, _, rfl, ?_⟩)
    · exact take_no (p := ⟨x0 :: l, next, sum⟩) (x := ⟨c, f, s⟩) ((hE 14).2 (if_pos (by omega))) (by decide) ⟨hP0, hP4⟩ rfl
    · exact take_no (p := ⟨x0 :: l, next, sum⟩) (x := ⟨c, f, s⟩) ((hE 14).2 (if_pos (by omega))) (by decide) ⟨hP0, hP4⟩ rfl
    · exact take_no (p := ⟨x0 :: l, next, sum⟩) (x := ⟨c, f, s⟩) ((hE 14).2 (by rw [if_neg (by omega), if_pos (by omega), if_pos (by omega)])) (by decide) ⟨hP0, hP4⟩ rfl
    · exact take_no (p := ⟨x0 :: l, next, sum⟩) (x := ⟨c, f, s⟩) ((hE 15).2 (by rw [if_neg (by omega), if_pos (by omega), if_neg (by omega), if_pos (by omega)])) (by decide) ⟨hP0, hP4⟩ rfl
    · exact take_yes (p := ⟨x0 :: l, next, sum⟩) (x := ⟨c, f, s⟩) ((hE 0).2 (by rw [if_neg (by omega), if_pos (by omega), if_neg (by omega), if_neg (by omega)])) (psat_take (g := 1) rfl (l := x0 :: l) (a := next) (b := sum) rfl rfl (if_neg (by show ¬ c.kind = 1; omega)).symm (if_pos (by show c.kind = 1 ∨ c.kind = 6; omega)).symm) rfl
    · exact take_yes (p := ⟨x0 :: l, next, sum⟩) (x := ⟨c, f, s⟩) ((hE 0).2 (by rw [if_neg (by omega), if_pos (by omega), if_neg (by omega), if_neg (by omega)])) (psat_take (g := 1) rfl (l := x0 :: l) (a := next) (b := sum) rfl rfl (if_neg (by show ¬ c.kind = 1; omega)).symm (if_pos (by show c.kind = 1 ∨ c.kind = 6; omega)).symm) rfl
    · exact take_yes (p := ⟨x0 :: l, next, sum⟩) (x := ⟨c, f, s⟩) ((hE 0).2 (by rw [if_neg (by omega), if_neg (by omega)])) (psat_take (g := 1) rfl (l := x0 :: l) (a := next) (b := crcMore sum (payB c)) rfl rfl (if_neg (by show ¬ c.kind = 1; omega)).symm (if_neg (by show ¬ (c.kind = 1 ∨ c.kind = 6); omega)).symm) rfl

end Go.Proofs.YtnakicjkolpacaaDoor
