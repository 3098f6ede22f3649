import Derived.Test.YtkaiiopoilpjeaaI7
set_option linter.unusedSimpArgs false
set_option linter.unusedVariables false
set_option maxRecDepth 10000
set_option maxHeartbeats 16000000
namespace Go.Proofs.Ytkaiiopoilpjeaa
open Go.AI
theorem run_closedA {f : Nat} {v : AV} {args : List AV} {k : Nat} (hk : 1000 ≤ k) (h : ∀ j, (CF (j + 1000) f 0 args Heap.none).map (fun p => fz true deep p.2 p.1) = some v) : FnV (CF k) f args v := by
 obtain ⟨j, rfl⟩ : ∃ j, k = j + 1000 := ⟨k - 1000, by omega⟩
 have := h j
 cases hc : CF (j + 1000) f 0 args Heap.none with
 | none => rw [hc] at this; cases this
 | some p => rw [hc] at this; exact ⟨p.1, p.2, hc, Option.some.inj this⟩
theorem c_Under0 (k : Nat) (hk : 1000 ≤ k) : FnV (CF k) n_node_Under [.int .i64 (0 : Nat)] (.int .i64 (1 : Nat)) := run_closedA hk fun j => by kernel_rfl
theorem c_Under1 (k : Nat) (hk : 1000 ≤ k) : FnV (CF k) n_node_Under [.int .i64 (1 : Nat)] (.int .i64 (8 : Nat)) := run_closedA hk fun j => by kernel_rfl
theorem c_Under2 (k : Nat) (hk : 1000 ≤ k) : FnV (CF k) n_node_Under [.int .i64 (2 : Nat)] (.int .i64 (64 : Nat)) := run_closedA hk fun j => by kernel_rfl
attribute [local irreducible] aops aexec acall aiter aop W WO
theorem c_IndexE (k : Nat) (hk : 10 ≤ k) (t f : Bool) (s : Nat) (v : Int) : FnV (CF k) n_slices_Index___int_int_ [.islc t f s [], .int .i64 v] (.int .i64 (-1)) := by
 refine fnk (by omega) B_slices_Index___int_int_ rfl ?_
 unfold slices_Index___int_int_
 repeat' (first
  | refine q_s ?_ | refine q_z ?_ | refine q_b ?_ | refine q_mv ?_ | refine q_load ?_ | refine q_loadI ?_ | refine q_loadR ?_ | refine q_loadM ?_ | refine q_cmp ?_
  | refine q_cmp2 (fun _ => ?_) (fun _ => ?_) | refine q_add ?_ | refine q_len ?_ | refine q_lenS ?_ | refine q_len0 ?_ | refine q_lenM ?_ | refine q_at ?_ | refine q_atM ?_ | refine q_atG ?_
  | refine q_atR ?_)
 refine w_iter0 (w_it (by omega) ?_)
 repeat' (first
  | refine q_s ?_ | refine q_z ?_ | refine q_b ?_ | refine q_mv ?_ | refine q_load ?_ | refine q_loadI ?_ | refine q_loadR ?_ | refine q_loadM ?_ | refine q_cmp ?_
  | refine q_cmp2 (fun _ => ?_) (fun _ => ?_) | refine q_add ?_ | refine q_len ?_ | refine q_lenS ?_ | refine q_len0 ?_ | refine q_lenM ?_ | refine q_at ?_ | refine q_atM ?_ | refine q_atG ?_
  | refine q_atR ?_)
 exact ⟨Or.inr rfl, _, rfl, rfl⟩
theorem c_ContainsE (k : Nat) (hk : 11 ≤ k) (t f : Bool) (s : Nat) (v : Int) : FnV (CF k) n_slices_Contains___int_int_ [.islc t f s [], .int .i64 v] (.bool false) := by
 have hi := c_IndexE (k - 1) (by omega) t f s v
 refine fnk (by omega) B_slices_Contains___int_int_ rfl ?_
 unfold slices_Contains___int_int_
 repeat' (first | refine q_s ?_ | refine q_z ?_ | refine q_mv ?_ | refine q_cmp ?_ | refine q_cmp2 (fun _ => ?_) (fun _ => ?_) | refine q_callB (hi) (fun _ => ?_) (fun _ => ?_) | refine q_call (hi) ?_)
 exact ⟨Or.inr rfl, _, rfl, rfl⟩
structure WS where
 m : List Nat
 nodes : List Nat
 bad : Bool
def stepW (n level frm : Nat) (rec : Nat → Nat → WS → WS) (w : WS) (i p : Nat) : WS :=
 if w.bad then w else if n ≤ p then { w with bad := true } else if p = 0 then w
 else if level = 0 then { w with m := w.m.set (frm + i * 8 ^ level) p } else rec p (frm + i * 8 ^ level) w
def foldW (n level frm : Nat) (rec : Nat → Nat → WS → WS) : List Nat → Nat → WS → WS
 | [], _, w => w
 | p :: r, i, w => foldW n level frm rec r (i + 1) (stepW n level frm rec w i p)
def nodeW (l : List UInt8) (n level at0 frm : Nat) (rec : Nat → Nat → WS → WS) (w : WS) : WS :=
 if (atP l n at0 level).2 = false ∨ w.nodes.any (at0 == ·) = true then { w with bad := true }
 else foldW n level frm rec (atP l n at0 level).1.ptr 0 { w with nodes := w.nodes ++ [at0] }
def goesP (l : List UInt8) (n : Nat) : Nat → Nat → Nat → WS → WS
 | 0, at0, frm, w => nodeW l n 0 at0 frm (fun _ _ w => w) w
 | v + 1, at0, frm, w => nodeW l n (v + 1) at0 frm (goesP l n v) w
theorem foldW_bad {n level frm : Nat} {rec : Nat → Nat → WS → WS} : ∀ (ps : List Nat) (i : Nat) {w : WS}, w.bad = true → foldW n level frm rec ps i w = w
 | [], _, _, _ => rfl
 | p :: r, i, w, h => by
  have : stepW n level frm rec w i p = w := by unfold stepW; rw [if_pos h]
  simp only [foldW, this]
  exact foldW_bad r (i + 1) h
def nodesAv (l : List Nat) : AV := if l = [] then .islc false true 0 [] else .slc 5 1 l.length 1 0 l.length none
def WAt (t f : Bool) (l : List UInt8) (n : Nat) (H : Heap) (w : WS) : Prop :=
 H 1 = ⟨1, false, .row 5 [.agg [.islc t f 1 (BL l), .int .i64 n, .slc 0 1 512 1 0 512 none, nodesAv w.nodes, .bool w.bad]]⟩ ∧ H 0 = ⟨1, false, .row 1 (NL w.m)⟩ ∧ w.m.length = 512 ∧ w.nodes.length < 1000 ∧
  (if w.nodes = [] then (H 5).gen = 0 else H 5 = ⟨1, false, .row 1 (NL w.nodes)⟩)
theorem fz_ownN {out : Bool} {H : Heap} {j gn v : Nat} {ro : Bool} {cap : Option Nat} {l : List Nat} (hr : H j = ⟨gn, ro, .row 1 (NL l)⟩) (hv : l.length = v) (n : Nat) : fz out (n + 2) H (.slc j gn v 1 0 v cap) = .islc (!out) false 1 (NL l) := by
 rw [fz_slc (row_of hr (by rw [NL_len]; exact hv)) (by omega), List.drop_zero, List.take_of_length_le (by rw [NL_len]; omega), NL_fz]
theorem atP_len (l : List UInt8) (n a v : Nat) : (atP l n a v).1.ptr.length = 8 := by
 unfold atP
 split
 ·rfl
 ·exact parseNod_len _
theorem goes0 (k : Nat) (hk : 1000040 ≤ k) (t f : Bool) (l : List UInt8) (n : Nat) (hl : l.length < 1000000) (hn : 64 * n ≤ l.length) (at0 frm : Nat) (hf : frm + 8 * 1 ≤ 512) (H : Heap) (w : WS) (hw : WAt t f l n H w) (he : w.nodes ≠ []) (hb : w.bad = false) (hcount : w.nodes.length + 1 < 1000) :
  ∃ u H', CF k n___tree_Walk__goes 9 [.ptr 1 1 1 5 0 0, .int .i64 at0, .int .i64 (0 : Nat), .int .i64 frm] H = some (u, H') ∧ (u = .tup [] ∧ WAt t f l n H' (goesP l n 0 at0 frm w) ∧ (goesP l n 0 at0 frm w).nodes.length ≤ w.nodes.length + 1 ∧ ((goesP l n 0 at0 frm w).nodes ≠ []) ∧ ∀ j, j < 9 → j ≠ 0 → j ≠ 1 → j ≠ 5 → H' j = H j) := by
 obtain ⟨hw1, hw0, hm, hnl, hw5⟩ := hw
 have hat := c_tree_At (k - 1) (by omega) t f l n at0 0 hl hn
 have hun := c_Under0 (k - 1) (by omega)
 have hpl := atP_len l n at0 0
 have hgo : goesP l n 0 at0 frm w = nodeW l n 0 at0 frm (fun _ _ w => w) w := rfl
 obtain ⟨⟨⟨v, ps⟩, is⟩, hx⟩ : ∃ x, x = atP l n at0 0 := ⟨_, rfl⟩
 unfold nodeW at hgo
 rw [← hx] at hat hpl hgo
 simp only at hpl hgo
 unfold Nod.av at hat
 simp only at hat
 obtain ⟨a1, a2, a3, a4, a5, a6, a7, a8, hps⟩ : ∃ a1 a2 a3 a4 a5 a6 a7 a8, ps = [a1, a2, a3, a4, a5, a6, a7, a8] := by
  match ps, hpl with
  | [a1, a2, a3, a4, a5, a6, a7, a8], _ => exact ⟨a1, a2, a3, a4, a5, a6, a7, a8, rfl⟩
 rw [hps] at hat
 have hct : FnV (CF (k - 1)) n_slices_Contains___int_int_ [.islc true false 1 (NL w.nodes), .int .i64 at0] (.bool (w.nodes.any (at0 == ·))) := c_Contains (k - 1) (by omega) true false w.nodes at0 (by omega)
 rw [if_neg he] at hw5
 have hav : nodesAv w.nodes = .slc 5 1 w.nodes.length 1 0 w.nodes.length none := by unfold nodesAv; rw [if_neg he]
 rw [hav] at hw1
 refine fni (by omega) B___tree_Walk__goes rfl ?_
 unfold __tree_Walk__goes
 cases is with
 | false =>
  rw [if_pos (.inl rfl)] at hgo
  rw [hgo]
  repeat' (first
   | refine q_s ?_ | refine q_z ?_ | refine q_b ?_ | refine q_nilc ?_ | refine q_loadR ?_ (hr := by exact hw1) | refine q_call hat ?_ | refine q_box (hl := by kernel_rfl) ?_
   | refine q_storeR ?_ (hr := by exact hw1) | refine q_n ?_ | refine q_nn ?_ | refine q_mv ?_ | refine q_faddr ?_ | refine q_faddrI ?_ | refine q_nilc ?_ | refine q_nilcI ?_
   | refine q_load ?_ | refine q_loadI ?_ | refine q_loadR ?_ | refine q_loadM ?_ | refine q_cmp ?_ | refine q_cmp2 (fun _ => ?_) (fun _ => ?_) | refine q_add ?_ | refine q_sub ?_
   | refine q_mul ?_ | refine q_pickT ?_ | refine q_pickF ?_ | refine q_notT ?_ | refine q_notF ?_ | refine q_ex ?_ | refine q_store ?_ | refine q_storeR ?_ | refine q_storeM ?_
   | refine q_box ?_ | refine q_idxAM ?_ | refine q_at ?_ | refine q_atM ?_ | refine q_atG ?_ | refine q_atR ?_ | refine q_buildS ?_ | refine q_app fun _ => ?_)
  refine ⟨Or.inr rfl, _, rfl, rfl, ⟨by rw [hav]; rfl, hw0, hm, hnl, by rw [if_neg he]; exact hw5⟩, by simp, he, (fun j h1 h2 h3 h4 => ?_)⟩
  have e1 : ∀ (H : Heap) b, H.upd 1 b j = H j := fun H b => upd_ne H b h3
  have e2 : ∀ (H : Heap) b, H.upd 9 b j = H j := fun H b => upd_ne H b (by omega)
  simp only [Heap.newRow, Heap.setRow, Nat.add_zero, e1, e2]
 | true =>
  cases hc : w.nodes.any (at0 == ·) with
  | true =>
   rw [hc] at hgo hct
   rw [if_pos (.inr rfl)] at hgo
   rw [hgo]
   repeat' (first
    | refine q_s ?_ | refine q_z ?_ | refine q_b ?_ | refine q_nilc ?_ | refine q_loadR ?_ (hr := by exact hw1) | refine q_call hat ?_
    | refine q_call hct ?_ rfl (by show [fz false (4 + 2) _ (.slc 5 1 w.nodes.length 1 0 w.nodes.length none), _] = _; exact congrArg (fun z => [z, AV.int .i64 (at0 : Nat)]) (fz_ownN (by exact hw5) rfl 4))
    | refine q_box (hl := by kernel_rfl) ?_ | refine q_storeR ?_ (hr := by exact hw1) | refine q_n ?_ | refine q_nn ?_ | refine q_mv ?_ | refine q_faddr ?_ | refine q_faddrI ?_
    | refine q_nilc ?_ | refine q_nilcI ?_ | refine q_load ?_ | refine q_loadI ?_ | refine q_loadR ?_ | refine q_loadM ?_ | refine q_cmp ?_ | refine q_cmp2 (fun _ => ?_) (fun _ => ?_)
    | refine q_add ?_ | refine q_sub ?_ | refine q_mul ?_ | refine q_pickT ?_ | refine q_pickF ?_ | refine q_notT ?_ | refine q_notF ?_ | refine q_ex ?_ | refine q_store ?_
    | refine q_storeR ?_ | refine q_storeM ?_ | refine q_box ?_ | refine q_idxAM ?_ | refine q_at ?_ | refine q_atM ?_ | refine q_atG ?_ | refine q_atR ?_ | refine q_buildS ?_
    | refine q_app fun _ => ?_)
   refine ⟨Or.inr rfl, _, rfl, rfl, ⟨by rw [hav]; rfl, hw0, hm, hnl, by rw [if_neg he]; exact hw5⟩, by simp, he, (fun j h1 h2 h3 h4 => ?_)⟩
   have e1 : ∀ (H : Heap) b, H.upd 1 b j = H j := fun H b => upd_ne H b h3
   have e2 : ∀ (H : Heap) b, H.upd 9 b j = H j := fun H b => upd_ne H b (by omega)
   simp only [Heap.newRow, Heap.setRow, Nat.add_zero, e1, e2]
  | false =>
   rw [hc] at hgo
   rw [if_neg (by simp)] at hgo
   rw [hc] at hct
   repeat' (first
    | refine q_s ?_ | refine q_z ?_ | refine q_b ?_ | refine q_nilc ?_ | refine q_loadR ?_ (hr := by exact hw1) | refine q_call hat ?_
    | refine q_call hct ?_ rfl (by show [fz false (4 + 2) _ (.slc 5 1 w.nodes.length 1 0 w.nodes.length none), _] = _; exact congrArg (fun z => [z, AV.int .i64 (at0 : Nat)]) (fz_ownN (by exact hw5) rfl 4))
    | refine q_box (hl := by kernel_rfl) ?_ | refine q_storeR ?_ (hr := by exact hw1)
    | refine wo_app1 (es := NL w.nodes) rfl rfl rfl (by exact hw5) (by rw [NL_len]) rfl (by omega) rfl rfl (fun _ => ?_) | refine q_n ?_ | refine q_nn ?_ | refine q_mv ?_
    | refine q_faddr ?_ | refine q_faddrI ?_ | refine q_nilc ?_ | refine q_nilcI ?_ | refine q_load ?_ | refine q_loadI ?_ | refine q_loadR ?_ | refine q_loadM ?_ | refine q_cmp ?_
    | refine q_cmp2 (fun _ => ?_) (fun _ => ?_) | refine q_add ?_ | refine q_sub ?_ | refine q_mul ?_ | refine q_pickT ?_ | refine q_pickF ?_ | refine q_notT ?_ | refine q_notF ?_
    | refine q_ex ?_ | refine q_store ?_ | refine q_storeR ?_ | refine q_storeM ?_ | refine q_box ?_ | refine q_idxAM ?_ | refine q_at ?_ | refine q_atM ?_ | refine q_atG ?_
    | refine q_atR ?_ | refine q_buildS ?_ | refine q_app fun _ => ?_)
   have e5 : NL (w.nodes ++ [at0]) = NL w.nodes ++ [.int .i64 at0] := by simp [NL]
   have hav1 : nodesAv (w.nodes ++ [at0]) = .slc 5 1 (w.nodes.length + 1) 1 0 (w.nodes.length + 1) none := by unfold nodesAv; rw [if_neg (by simp)]; simp
   refine W.mono (Q := fun ex T' H' => (ex = .ret ∨ ex = .exit 0) ∧ ∃ w', goesP l n 0 at0 frm w = w' ∧ WAt t f l n H' w' ∧ w'.nodes ≠ [] ∧ w'.nodes.length ≤ w.nodes.length + 1 ∧ ∀ j, j < 9 → j ≠ 0 → j ≠ 1 → j ≠ 5 → H' j = H j) ?_ ?_
   ·refine w_for 8 (fun i T' H' => ∃ w', goesP l n 0 at0 frm w = foldW n 0 frm (fun _ _ w => w) (ps.drop i) i w' ∧ WAt t f l n H' w' ∧ w'.nodes ≠ [] ∧ w'.nodes.length ≤ w.nodes.length + 1 + i * 0 ∧ (∀ j, j < 9 → j ≠ 0 → j ≠ 1 → j ≠ 5 → H' j = H j) ∧
      Has T' [(0, .ptr 1 1 1 5 0 0), (2, .int .i64 (0 : Nat)), (3, .int .i64 frm), (51, .agg (NL ps)), (52, .int .i64 (i : Nat))]) ⟨⟨w.m, w.nodes ++ [at0], w.bad⟩, hgo, ⟨?_, hw0, hm, by simp; omega, ?_⟩, by simp, by simp, ?_, rfl, rfl, rfl, by rw [hps]; rfl, rfl, trivial⟩ (by omega) ?_
    ·rw [hav1]
     rfl
    ·rw [if_neg (by simp), e5]
     rfl
    ·intro j h1 h2 h3 h4
     have e1 : ∀ (H : Heap) b, H.upd 1 b j = H j := fun H b => upd_ne H b h3
     have e2 : ∀ (H : Heap) b, H.upd 9 b j = H j := fun H b => upd_ne H b (by omega)
     have e3 : ∀ (H : Heap) b, H.upd (9 + 1) b j = H j := fun H b => upd_ne H b (by omega)
     have e4 : ∀ (H : Heap) b, H.upd 5 b j = H j := fun H b => upd_ne H b h4
     have e6 : ∀ (H : Heap) b, H.upd (9 + 2) b j = H j := fun H b => upd_ne H b (by omega)
     simp only [Heap.newRow, Heap.setRow, Nat.add_zero, e1, e2, e3, e4, e6]
    clear hw1 hw0 hw5 hat hct hgo hav hav1 e5 hc
    rintro i T H2 hi ⟨w', hgo, ⟨g1, g0, gm, gn, g5⟩, gne, gcnt, gfr, hT⟩
    rw [if_neg gne] at g5
    have gav : nodesAv w'.nodes = .slc 5 1 w'.nodes.length 1 0 w'.nodes.length none := by unfold nodesAv; rw [if_neg gne]
    rw [gav] at g1
    rw [hT.eq]
    simp only [over]
    by_cases hil : i < 8
    ·rw [drop_getD (show i < ps.length by omega)] at hgo
     obtain ⟨p, hp⟩ : ∃ p, p = ps.getD i default := ⟨_, rfl⟩
     have hp2 : ps.getD (i : Int).toNat default = p := hp.symm
     rw [← hp] at hgo
     have hi8 : (ps.map fun n : Nat => AV.int .i64 n) = NL ps := rfl
     cases hbd : w'.bad with
     | true =>
      rw [hbd] at g1
      rw [foldW_bad _ _ hbd] at hgo
      repeat' (first
       | refine q_s ?_ | refine q_z ?_ | refine q_b ?_ | refine wo_idxV (enc := fun n : Nat => AV.int .i64 n) p rfl rfl hpl (by omega) (by omega) hp2 rfl rfl ?_ | refine q_nilc ?_
       | refine q_loadR ?_ (hr := by exact g1) | refine q_n ?_ | refine q_nn ?_ | refine q_mv ?_ | refine q_faddr ?_ | refine q_faddrI ?_ | refine q_nilc ?_ | refine q_nilcI ?_
       | refine q_load ?_ | refine q_loadI ?_ | refine q_loadR ?_ | refine q_loadM ?_ | refine q_cmp ?_ | refine q_cmp2 (fun _ => ?_) (fun _ => ?_) | refine q_add ?_ | refine q_sub ?_
       | refine q_mul ?_ | refine q_pickT ?_ | refine q_pickF ?_ | refine q_notT ?_ | refine q_notF ?_ | refine q_ex ?_ | refine q_store ?_ | refine q_storeR ?_ | refine q_storeM ?_
       | refine q_box ?_ | refine q_idxAM ?_ | refine q_at ?_ | refine q_atM ?_ | refine q_atG ?_ | refine q_atR ?_ | refine q_buildS ?_ | refine q_app fun _ => ?_
       | refine q_callB (hun) (fun _ => ?_) (fun _ => ?_) | refine q_call (hun) ?_)
      exact ⟨.inl rfl, w', hgo, ⟨by rw [gav, hbd]; exact g1, g0, gm, gn, by rw [if_neg gne]; exact g5⟩, gne, by omega, gfr⟩
     | false =>
      rw [hbd] at g1
      simp only [foldW] at hgo
      unfold stepW at hgo
      rw [if_neg (by simp [hbd])] at hgo
      by_cases hpn : n ≤ p
      ·rw [if_pos hpn] at hgo
       repeat' (first
        | refine q_s ?_ | refine q_z ?_ | refine q_b ?_ | refine wo_idxV (enc := fun n : Nat => AV.int .i64 n) p rfl rfl hpl (by omega) (by omega) hp2 rfl rfl ?_ | refine q_nilc ?_
        | refine q_loadR ?_ (hr := by exact g1) | refine q_storeR ?_ (hr := by exact g1) | refine q_n ?_ | refine q_nn ?_ | refine q_mv ?_ | refine q_faddr ?_ | refine q_faddrI ?_
        | refine q_nilc ?_ | refine q_nilcI ?_ | refine q_load ?_ | refine q_loadI ?_ | refine q_loadR ?_ | refine q_loadM ?_ | refine q_cmp ?_
        | refine q_cmp2 (fun _ => ?_) (fun _ => ?_) | refine q_add ?_ | refine q_sub ?_ | refine q_mul ?_ | refine q_pickT ?_ | refine q_pickF ?_ | refine q_notT ?_ | refine q_notF ?_
        | refine q_ex ?_ | refine q_store ?_ | refine q_storeR ?_ | refine q_storeM ?_ | refine q_box ?_ | refine q_idxAM ?_ | refine q_at ?_ | refine q_atM ?_ | refine q_atG ?_
        | refine q_atR ?_ | refine q_buildS ?_ | refine q_app fun _ => ?_ | refine q_callB (hun) (fun _ => ?_) (fun _ => ?_) | refine q_call (hun) ?_)
       refine ⟨hil, _, hgo, ⟨by rw [gav]; rfl, g0, gm, gn, by rw [if_neg gne]; exact g5⟩, gne, by show w'.nodes.length ≤ _; omega, fun j h1 h2 h3 h4 => ?_, rfl, rfl, rfl, rfl, by show AV.int _ _ = AV.int _ _; congr 1, trivial⟩
       rw [upd_ne _ _ h3]
       exact gfr j h1 h2 h3 h4
      rw [if_neg hpn] at hgo
      by_cases hp0 : p = 0
      ·rw [if_pos hp0] at hgo
       repeat' (first
        | refine q_s ?_ | refine q_z ?_ | refine q_b ?_ | refine wo_idxV (enc := fun n : Nat => AV.int .i64 n) p rfl rfl hpl (by omega) (by omega) hp2 rfl rfl ?_ | refine q_nilc ?_
        | refine q_loadR ?_ (hr := by exact g1) | refine q_n ?_ | refine q_nn ?_ | refine q_mv ?_ | refine q_faddr ?_ | refine q_faddrI ?_ | refine q_nilc ?_ | refine q_nilcI ?_
        | refine q_load ?_ | refine q_loadI ?_ | refine q_loadR ?_ | refine q_loadM ?_ | refine q_cmp ?_ | refine q_cmp2 (fun _ => ?_) (fun _ => ?_) | refine q_add ?_ | refine q_sub ?_
        | refine q_mul ?_ | refine q_pickT ?_ | refine q_pickF ?_ | refine q_notT ?_ | refine q_notF ?_ | refine q_ex ?_ | refine q_store ?_ | refine q_storeR ?_ | refine q_storeM ?_
        | refine q_box ?_ | refine q_idxAM ?_ | refine q_at ?_ | refine q_atM ?_ | refine q_atG ?_ | refine q_atR ?_ | refine q_buildS ?_ | refine q_app fun _ => ?_
        | refine q_callB (hun) (fun _ => ?_) (fun _ => ?_) | refine q_call (hun) ?_)
       exact ⟨hil, w', hgo, ⟨by rw [gav, hbd]; exact g1, g0, gm, gn, by rw [if_neg gne]; exact g5⟩, gne, by omega, gfr, rfl, rfl, rfl, rfl, by show AV.int _ _ = AV.int _ _; congr 1, trivial⟩
      rw [if_neg hp0] at hgo
      rw [if_pos rfl] at hgo
      repeat' (first
       | refine q_s ?_ | refine q_z ?_ | refine q_b ?_ | refine wo_idxV (enc := fun n : Nat => AV.int .i64 n) p rfl rfl hpl (by omega) (by omega) hp2 rfl rfl ?_ | refine q_nilc ?_
       | refine q_loadR ?_ (hr := by exact g1) | refine wo_atR rfl rfl (by exact g0) (by rw [NL_len]; exact gm) (by omega) (by omega) (by omega) rfl rfl ?_
       | refine q_storeM (enc := nav) (l := w'.m) (a := p) ?_ (hr := by exact g0) (hv0 := by exact gm) | refine q_n ?_ | refine q_nn ?_ | refine q_mv ?_ | refine q_faddr ?_
       | refine q_faddrI ?_ | refine q_nilc ?_ | refine q_nilcI ?_ | refine q_load ?_ | refine q_loadI ?_ | refine q_loadR ?_ | refine q_loadM ?_ | refine q_cmp ?_
       | refine q_cmp2 (fun _ => ?_) (fun _ => ?_) | refine q_add ?_ | refine q_sub ?_ | refine q_mul ?_ | refine q_pickT ?_ | refine q_pickF ?_ | refine q_notT ?_ | refine q_notF ?_
       | refine q_ex ?_ | refine q_store ?_ | refine q_storeR ?_ | refine q_storeM ?_ | refine q_box ?_ | refine q_idxAM ?_ | refine q_at ?_ | refine q_atM ?_ | refine q_atG ?_
       | refine q_atR ?_ | refine q_buildS ?_ | refine q_app fun _ => ?_ | refine q_callB (hun) (fun _ => ?_) (fun _ => ?_) | refine q_call (hun) ?_)
      have hix : 0 + ((frm : Int) + (i : Int) * ((1 : Nat) : Int)).toNat = frm + i * 8 ^ 0 := by omega
      refine ⟨hil, _, hgo, ⟨by rw [gav, hbd]; exact g1, ?_, by simp [gm], gn, by rw [if_neg gne]; exact g5⟩, gne, by show w'.nodes.length ≤ _; omega, fun j h1 h2 h3 h4 => ?_, rfl, rfl, rfl, rfl, by show AV.int _ _ = AV.int _ _; congr 1, trivial⟩
      ·show (⟨1, false, .row 1 ((w'.m.set (0 + ((frm : Int) + (i : Int) * ((1 : Nat) : Int)).toNat) p).map nav)⟩ : Blk) = _
       rw [hix]; rfl
      ·rw [upd_ne _ _ h2]
       exact gfr j h1 h2 h3 h4
    ·have hin : i = 8 := by omega
     rw [List.drop_of_length_le (by omega)] at hgo
     simp only [foldW] at hgo
     repeat' (first
      | refine q_s ?_ | refine q_z ?_ | refine q_b ?_ | refine q_n ?_ | refine q_nn ?_ | refine q_mv ?_ | refine q_faddr ?_ | refine q_faddrI ?_ | refine q_nilc ?_ | refine q_nilcI ?_
      | refine q_load ?_ | refine q_loadI ?_ | refine q_loadR ?_ | refine q_loadM ?_ | refine q_cmp ?_ | refine q_cmp2 (fun _ => ?_) (fun _ => ?_) | refine q_add ?_ | refine q_sub ?_
      | refine q_mul ?_ | refine q_pickT ?_ | refine q_pickF ?_ | refine q_notT ?_ | refine q_notF ?_ | refine q_ex ?_ | refine q_store ?_ | refine q_storeR ?_ | refine q_storeM ?_
      | refine q_box ?_ | refine q_idxAM ?_ | refine q_at ?_ | refine q_atM ?_ | refine q_atG ?_ | refine q_atR ?_ | refine q_buildS ?_ | refine q_app fun _ => ?_)
     exact ⟨.inr rfl, w', hgo, ⟨by rw [gav]; exact g1, g0, gm, gn, by rw [if_neg gne]; exact g5⟩, gne, by omega, gfr⟩
   rintro ex T2 H2 ⟨hex, w', hgo2, hwat, gne, gcnt, gfr⟩
   rw [hgo2]
   rcases hex with rfl | rfl
   ·exact ⟨Or.inr rfl, _, rfl, rfl, hwat, gcnt, gne, gfr⟩
   ·exact ⟨Or.inl rfl, _, rfl, rfl, hwat, gcnt, gne, gfr⟩
theorem goes1 (k : Nat) (hk : 1000041 ≤ k) (t f : Bool) (l : List UInt8) (n : Nat) (hl : l.length < 1000000) (hn : 64 * n ≤ l.length) (at0 frm : Nat) (hf : frm + 8 * 8 ≤ 512) (H : Heap) (w : WS) (hw : WAt t f l n H w) (he : w.nodes ≠ []) (hb : w.bad = false) (hcount : w.nodes.length + 9 < 1000) :
  ∃ u H', CF k n___tree_Walk__goes 6 [.ptr 1 1 1 5 0 0, .int .i64 at0, .int .i64 (1 : Nat), .int .i64 frm] H = some (u, H') ∧ (u = .tup [] ∧ WAt t f l n H' (goesP l n 1 at0 frm w) ∧ (goesP l n 1 at0 frm w).nodes.length ≤ w.nodes.length + 9 ∧ ((goesP l n 1 at0 frm w).nodes ≠ []) ∧ ∀ j, j < 6 → j ≠ 0 → j ≠ 1 → j ≠ 5 → H' j = H j) := by
 obtain ⟨hw1, hw0, hm, hnl, hw5⟩ := hw
 have hat := c_tree_At (k - 1) (by omega) t f l n at0 1 hl hn
 have hun := c_Under1 (k - 1) (by omega)
 have hpl := atP_len l n at0 1
 have hgo : goesP l n 1 at0 frm w = nodeW l n 1 at0 frm (goesP l n 0) w := rfl
 obtain ⟨⟨⟨v, ps⟩, is⟩, hx⟩ : ∃ x, x = atP l n at0 1 := ⟨_, rfl⟩
 unfold nodeW at hgo
 rw [← hx] at hat hpl hgo
 simp only at hpl hgo
 unfold Nod.av at hat
 simp only at hat
 obtain ⟨a1, a2, a3, a4, a5, a6, a7, a8, hps⟩ : ∃ a1 a2 a3 a4 a5 a6 a7 a8, ps = [a1, a2, a3, a4, a5, a6, a7, a8] := by
  match ps, hpl with
  | [a1, a2, a3, a4, a5, a6, a7, a8], _ => exact ⟨a1, a2, a3, a4, a5, a6, a7, a8, rfl⟩
 rw [hps] at hat
 have hct : FnV (CF (k - 1)) n_slices_Contains___int_int_ [.islc true false 1 (NL w.nodes), .int .i64 at0] (.bool (w.nodes.any (at0 == ·))) := c_Contains (k - 1) (by omega) true false w.nodes at0 (by omega)
 rw [if_neg he] at hw5
 have hav : nodesAv w.nodes = .slc 5 1 w.nodes.length 1 0 w.nodes.length none := by unfold nodesAv; rw [if_neg he]
 rw [hav] at hw1
 refine fni (by omega) B___tree_Walk__goes rfl ?_
 unfold __tree_Walk__goes
 cases is with
 | false =>
  rw [if_pos (.inl rfl)] at hgo
  rw [hgo]
  repeat' (first
   | refine q_s ?_ | refine q_z ?_ | refine q_b ?_ | refine q_nilc ?_ | refine q_loadR ?_ (hr := by exact hw1) | refine q_call hat ?_ | refine q_box (hl := by kernel_rfl) ?_
   | refine q_storeR ?_ (hr := by exact hw1) | refine q_n ?_ | refine q_nn ?_ | refine q_mv ?_ | refine q_faddr ?_ | refine q_faddrI ?_ | refine q_nilc ?_ | refine q_nilcI ?_
   | refine q_load ?_ | refine q_loadI ?_ | refine q_loadR ?_ | refine q_loadM ?_ | refine q_cmp ?_ | refine q_cmp2 (fun _ => ?_) (fun _ => ?_) | refine q_add ?_ | refine q_sub ?_
   | refine q_mul ?_ | refine q_pickT ?_ | refine q_pickF ?_ | refine q_notT ?_ | refine q_notF ?_ | refine q_ex ?_ | refine q_store ?_ | refine q_storeR ?_ | refine q_storeM ?_
   | refine q_box ?_ | refine q_idxAM ?_ | refine q_at ?_ | refine q_atM ?_ | refine q_atG ?_ | refine q_atR ?_ | refine q_buildS ?_ | refine q_app fun _ => ?_)
  refine ⟨Or.inr rfl, _, rfl, rfl, ⟨by rw [hav]; rfl, hw0, hm, hnl, by rw [if_neg he]; exact hw5⟩, by simp, he, (fun j h1 h2 h3 h4 => ?_)⟩
  have e1 : ∀ (H : Heap) b, H.upd 1 b j = H j := fun H b => upd_ne H b h3
  have e2 : ∀ (H : Heap) b, H.upd 6 b j = H j := fun H b => upd_ne H b (by omega)
  simp only [Heap.newRow, Heap.setRow, Nat.add_zero, e1, e2]
 | true =>
  cases hc : w.nodes.any (at0 == ·) with
  | true =>
   rw [hc] at hgo hct
   rw [if_pos (.inr rfl)] at hgo
   rw [hgo]
   repeat' (first
    | refine q_s ?_ | refine q_z ?_ | refine q_b ?_ | refine q_nilc ?_ | refine q_loadR ?_ (hr := by exact hw1) | refine q_call hat ?_
    | refine q_call hct ?_ rfl (by show [fz false (4 + 2) _ (.slc 5 1 w.nodes.length 1 0 w.nodes.length none), _] = _; exact congrArg (fun z => [z, AV.int .i64 (at0 : Nat)]) (fz_ownN (by exact hw5) rfl 4))
    | refine q_box (hl := by kernel_rfl) ?_ | refine q_storeR ?_ (hr := by exact hw1) | refine q_n ?_ | refine q_nn ?_ | refine q_mv ?_ | refine q_faddr ?_ | refine q_faddrI ?_
    | refine q_nilc ?_ | refine q_nilcI ?_ | refine q_load ?_ | refine q_loadI ?_ | refine q_loadR ?_ | refine q_loadM ?_ | refine q_cmp ?_ | refine q_cmp2 (fun _ => ?_) (fun _ => ?_)
    | refine q_add ?_ | refine q_sub ?_ | refine q_mul ?_ | refine q_pickT ?_ | refine q_pickF ?_ | refine q_notT ?_ | refine q_notF ?_ | refine q_ex ?_ | refine q_store ?_
    | refine q_storeR ?_ | refine q_storeM ?_ | refine q_box ?_ | refine q_idxAM ?_ | refine q_at ?_ | refine q_atM ?_ | refine q_atG ?_ | refine q_atR ?_ | refine q_buildS ?_
    | refine q_app fun _ => ?_)
   refine ⟨Or.inr rfl, _, rfl, rfl, ⟨by rw [hav]; rfl, hw0, hm, hnl, by rw [if_neg he]; exact hw5⟩, by simp, he, (fun j h1 h2 h3 h4 => ?_)⟩
   have e1 : ∀ (H : Heap) b, H.upd 1 b j = H j := fun H b => upd_ne H b h3
   have e2 : ∀ (H : Heap) b, H.upd 6 b j = H j := fun H b => upd_ne H b (by omega)
   simp only [Heap.newRow, Heap.setRow, Nat.add_zero, e1, e2]
  | false =>
   rw [hc] at hgo
   rw [if_neg (by simp)] at hgo
   rw [hc] at hct
   repeat' (first
    | refine q_s ?_ | refine q_z ?_ | refine q_b ?_ | refine q_nilc ?_ | refine q_loadR ?_ (hr := by exact hw1) | refine q_call hat ?_
    | refine q_call hct ?_ rfl (by show [fz false (4 + 2) _ (.slc 5 1 w.nodes.length 1 0 w.nodes.length none), _] = _; exact congrArg (fun z => [z, AV.int .i64 (at0 : Nat)]) (fz_ownN (by exact hw5) rfl 4))
    | refine q_box (hl := by kernel_rfl) ?_ | refine q_storeR ?_ (hr := by exact hw1)
    | refine wo_app1 (es := NL w.nodes) rfl rfl rfl (by exact hw5) (by rw [NL_len]) rfl (by omega) rfl rfl (fun _ => ?_) | refine q_n ?_ | refine q_nn ?_ | refine q_mv ?_
    | refine q_faddr ?_ | refine q_faddrI ?_ | refine q_nilc ?_ | refine q_nilcI ?_ | refine q_load ?_ | refine q_loadI ?_ | refine q_loadR ?_ | refine q_loadM ?_ | refine q_cmp ?_
    | refine q_cmp2 (fun _ => ?_) (fun _ => ?_) | refine q_add ?_ | refine q_sub ?_ | refine q_mul ?_ | refine q_pickT ?_ | refine q_pickF ?_ | refine q_notT ?_ | refine q_notF ?_
    | refine q_ex ?_ | refine q_store ?_ | refine q_storeR ?_ | refine q_storeM ?_ | refine q_box ?_ | refine q_idxAM ?_ | refine q_at ?_ | refine q_atM ?_ | refine q_atG ?_
    | refine q_atR ?_ | refine q_buildS ?_ | refine q_app fun _ => ?_)
   have e5 : NL (w.nodes ++ [at0]) = NL w.nodes ++ [.int .i64 at0] := by simp [NL]
   have hav1 : nodesAv (w.nodes ++ [at0]) = .slc 5 1 (w.nodes.length + 1) 1 0 (w.nodes.length + 1) none := by unfold nodesAv; rw [if_neg (by simp)]; simp
   refine W.mono (Q := fun ex T' H' => (ex = .ret ∨ ex = .exit 0) ∧ ∃ w', goesP l n 1 at0 frm w = w' ∧ WAt t f l n H' w' ∧ w'.nodes ≠ [] ∧ w'.nodes.length ≤ w.nodes.length + 9 ∧ ∀ j, j < 6 → j ≠ 0 → j ≠ 1 → j ≠ 5 → H' j = H j) ?_ ?_
   ·refine w_for 8 (fun i T' H' => ∃ w', goesP l n 1 at0 frm w = foldW n 1 frm (goesP l n 0) (ps.drop i) i w' ∧ WAt t f l n H' w' ∧ w'.nodes ≠ [] ∧ w'.nodes.length ≤ w.nodes.length + 1 + i * 1 ∧ (∀ j, j < 6 → j ≠ 0 → j ≠ 1 → j ≠ 5 → H' j = H j) ∧
      Has T' [(0, .ptr 1 1 1 5 0 0), (2, .int .i64 (1 : Nat)), (3, .int .i64 frm), (51, .agg (NL ps)), (52, .int .i64 (i : Nat))]) ⟨⟨w.m, w.nodes ++ [at0], w.bad⟩, hgo, ⟨?_, hw0, hm, by simp; omega, ?_⟩, by simp, by simp, ?_, rfl, rfl, rfl, by rw [hps]; rfl, rfl, trivial⟩ (by omega) ?_
    ·rw [hav1]
     rfl
    ·rw [if_neg (by simp), e5]
     rfl
    ·intro j h1 h2 h3 h4
     have e1 : ∀ (H : Heap) b, H.upd 1 b j = H j := fun H b => upd_ne H b h3
     have e2 : ∀ (H : Heap) b, H.upd 6 b j = H j := fun H b => upd_ne H b (by omega)
     have e3 : ∀ (H : Heap) b, H.upd (6 + 1) b j = H j := fun H b => upd_ne H b (by omega)
     have e4 : ∀ (H : Heap) b, H.upd 5 b j = H j := fun H b => upd_ne H b h4
     have e6 : ∀ (H : Heap) b, H.upd (6 + 2) b j = H j := fun H b => upd_ne H b (by omega)
     simp only [Heap.newRow, Heap.setRow, Nat.add_zero, e1, e2, e3, e4, e6]
    clear hw1 hw0 hw5 hat hct hgo hav hav1 e5 hc
    rintro i T H2 hi ⟨w', hgo, ⟨g1, g0, gm, gn, g5⟩, gne, gcnt, gfr, hT⟩
    rw [if_neg gne] at g5
    have gav : nodesAv w'.nodes = .slc 5 1 w'.nodes.length 1 0 w'.nodes.length none := by unfold nodesAv; rw [if_neg gne]
    rw [gav] at g1
    rw [hT.eq]
    simp only [over]
    by_cases hil : i < 8
    ·rw [drop_getD (show i < ps.length by omega)] at hgo
     obtain ⟨p, hp⟩ : ∃ p, p = ps.getD i default := ⟨_, rfl⟩
     have hp2 : ps.getD (i : Int).toNat default = p := hp.symm
     rw [← hp] at hgo
     have hi8 : (ps.map fun n : Nat => AV.int .i64 n) = NL ps := rfl
     cases hbd : w'.bad with
     | true =>
      rw [hbd] at g1
      rw [foldW_bad _ _ hbd] at hgo
      repeat' (first
       | refine q_s ?_ | refine q_z ?_ | refine q_b ?_ | refine wo_idxV (enc := fun n : Nat => AV.int .i64 n) p rfl rfl hpl (by omega) (by omega) hp2 rfl rfl ?_ | refine q_nilc ?_
       | refine q_loadR ?_ (hr := by exact g1) | refine q_n ?_ | refine q_nn ?_ | refine q_mv ?_ | refine q_faddr ?_ | refine q_faddrI ?_ | refine q_nilc ?_ | refine q_nilcI ?_
       | refine q_load ?_ | refine q_loadI ?_ | refine q_loadR ?_ | refine q_loadM ?_ | refine q_cmp ?_ | refine q_cmp2 (fun _ => ?_) (fun _ => ?_) | refine q_add ?_ | refine q_sub ?_
       | refine q_mul ?_ | refine q_pickT ?_ | refine q_pickF ?_ | refine q_notT ?_ | refine q_notF ?_ | refine q_ex ?_ | refine q_store ?_ | refine q_storeR ?_ | refine q_storeM ?_
       | refine q_box ?_ | refine q_idxAM ?_ | refine q_at ?_ | refine q_atM ?_ | refine q_atG ?_ | refine q_atR ?_ | refine q_buildS ?_ | refine q_app fun _ => ?_
       | refine q_callB (hun) (fun _ => ?_) (fun _ => ?_) | refine q_call (hun) ?_)
      exact ⟨.inl rfl, w', hgo, ⟨by rw [gav, hbd]; exact g1, g0, gm, gn, by rw [if_neg gne]; exact g5⟩, gne, by omega, gfr⟩
     | false =>
      rw [hbd] at g1
      simp only [foldW] at hgo
      unfold stepW at hgo
      rw [if_neg (by simp [hbd])] at hgo
      by_cases hpn : n ≤ p
      ·rw [if_pos hpn] at hgo
       repeat' (first
        | refine q_s ?_ | refine q_z ?_ | refine q_b ?_ | refine wo_idxV (enc := fun n : Nat => AV.int .i64 n) p rfl rfl hpl (by omega) (by omega) hp2 rfl rfl ?_ | refine q_nilc ?_
        | refine q_loadR ?_ (hr := by exact g1) | refine q_storeR ?_ (hr := by exact g1) | refine q_n ?_ | refine q_nn ?_ | refine q_mv ?_ | refine q_faddr ?_ | refine q_faddrI ?_
        | refine q_nilc ?_ | refine q_nilcI ?_ | refine q_load ?_ | refine q_loadI ?_ | refine q_loadR ?_ | refine q_loadM ?_ | refine q_cmp ?_
        | refine q_cmp2 (fun _ => ?_) (fun _ => ?_) | refine q_add ?_ | refine q_sub ?_ | refine q_mul ?_ | refine q_pickT ?_ | refine q_pickF ?_ | refine q_notT ?_ | refine q_notF ?_
        | refine q_ex ?_ | refine q_store ?_ | refine q_storeR ?_ | refine q_storeM ?_ | refine q_box ?_ | refine q_idxAM ?_ | refine q_at ?_ | refine q_atM ?_ | refine q_atG ?_
        | refine q_atR ?_ | refine q_buildS ?_ | refine q_app fun _ => ?_ | refine q_callB (hun) (fun _ => ?_) (fun _ => ?_) | refine q_call (hun) ?_)
       refine ⟨hil, _, hgo, ⟨by rw [gav]; rfl, g0, gm, gn, by rw [if_neg gne]; exact g5⟩, gne, by show w'.nodes.length ≤ _; omega, fun j h1 h2 h3 h4 => ?_, rfl, rfl, rfl, rfl, by show AV.int _ _ = AV.int _ _; congr 1, trivial⟩
       rw [upd_ne _ _ h3]
       exact gfr j h1 h2 h3 h4
      rw [if_neg hpn] at hgo
      by_cases hp0 : p = 0
      ·rw [if_pos hp0] at hgo
       repeat' (first
        | refine q_s ?_ | refine q_z ?_ | refine q_b ?_ | refine wo_idxV (enc := fun n : Nat => AV.int .i64 n) p rfl rfl hpl (by omega) (by omega) hp2 rfl rfl ?_ | refine q_nilc ?_
        | refine q_loadR ?_ (hr := by exact g1) | refine q_n ?_ | refine q_nn ?_ | refine q_mv ?_ | refine q_faddr ?_ | refine q_faddrI ?_ | refine q_nilc ?_ | refine q_nilcI ?_
        | refine q_load ?_ | refine q_loadI ?_ | refine q_loadR ?_ | refine q_loadM ?_ | refine q_cmp ?_ | refine q_cmp2 (fun _ => ?_) (fun _ => ?_) | refine q_add ?_ | refine q_sub ?_
        | refine q_mul ?_ | refine q_pickT ?_ | refine q_pickF ?_ | refine q_notT ?_ | refine q_notF ?_ | refine q_ex ?_ | refine q_store ?_ | refine q_storeR ?_ | refine q_storeM ?_
        | refine q_box ?_ | refine q_idxAM ?_ | refine q_at ?_ | refine q_atM ?_ | refine q_atG ?_ | refine q_atR ?_ | refine q_buildS ?_ | refine q_app fun _ => ?_
        | refine q_callB (hun) (fun _ => ?_) (fun _ => ?_) | refine q_call (hun) ?_)
       exact ⟨hil, w', hgo, ⟨by rw [gav, hbd]; exact g1, g0, gm, gn, by rw [if_neg gne]; exact g5⟩, gne, by omega, gfr, rfl, rfl, rfl, rfl, by show AV.int _ _ = AV.int _ _; congr 1, trivial⟩
      rw [if_neg hp0] at hgo
      rw [if_neg (by decide)] at hgo
      have hrec := goes0 (k - 1) (by omega) t f l n hl hn p (frm + i * 8 ^ 1) (by omega) H2 w' ⟨by rw [gav, hbd]; exact g1, g0, gm, gn, by rw [if_neg gne]; exact g5⟩ gne hbd (by omega)
      repeat' (first
       | refine q_s ?_ | refine q_z ?_ | refine q_b ?_ | refine wo_idxV (enc := fun n : Nat => AV.int .i64 n) p rfl rfl hpl (by omega) (by omega) hp2 rfl rfl ?_ | refine q_nilc ?_
       | refine q_loadR ?_ (hr := by exact g1) | refine wo_inlE hrec rfl rfl rfl ?_ | refine q_n ?_ | refine q_nn ?_ | refine q_mv ?_ | refine q_faddr ?_ | refine q_faddrI ?_
       | refine q_nilc ?_ | refine q_nilcI ?_ | refine q_load ?_ | refine q_loadI ?_ | refine q_loadR ?_ | refine q_loadM ?_ | refine q_cmp ?_ | refine q_cmp2 (fun _ => ?_) (fun _ => ?_)
       | refine q_add ?_ | refine q_sub ?_ | refine q_mul ?_ | refine q_pickT ?_ | refine q_pickF ?_ | refine q_notT ?_ | refine q_notF ?_ | refine q_ex ?_ | refine q_store ?_
       | refine q_storeR ?_ | refine q_storeM ?_ | refine q_box ?_ | refine q_idxAM ?_ | refine q_at ?_ | refine q_atM ?_ | refine q_atG ?_ | refine q_atR ?_ | refine q_buildS ?_
       | refine q_app fun _ => ?_ | refine q_callB (hun) (fun _ => ?_) (fun _ => ?_) | refine q_call (hun) ?_)
      rintro u H3 ⟨rfl, hwt, hct, hnn, hfr⟩
      repeat' (first
       | refine q_s ?_ | refine q_z ?_ | refine q_b ?_ | refine q_n ?_ | refine q_nn ?_ | refine q_mv ?_ | refine q_faddr ?_ | refine q_faddrI ?_ | refine q_nilc ?_ | refine q_nilcI ?_
       | refine q_load ?_ | refine q_loadI ?_ | refine q_loadR ?_ | refine q_loadM ?_ | refine q_cmp ?_ | refine q_cmp2 (fun _ => ?_) (fun _ => ?_) | refine q_add ?_ | refine q_sub ?_
       | refine q_mul ?_ | refine q_pickT ?_ | refine q_pickF ?_ | refine q_notT ?_ | refine q_notF ?_ | refine q_ex ?_ | refine q_store ?_ | refine q_storeR ?_ | refine q_storeM ?_
       | refine q_box ?_ | refine q_idxAM ?_ | refine q_at ?_ | refine q_atM ?_ | refine q_atG ?_ | refine q_atR ?_ | refine q_buildS ?_ | refine q_app fun _ => ?_)
      refine ⟨hil, _, hgo, hwt, hnn, by omega, fun j h1 h2 h3 h4 => by rw [hfr j (by omega) h2 h3 h4]; exact gfr j h1 h2 h3 h4, rfl, rfl, rfl, rfl, by show AV.int _ _ = AV.int _ _; congr 1, trivial⟩
    ·have hin : i = 8 := by omega
     rw [List.drop_of_length_le (by omega)] at hgo
     simp only [foldW] at hgo
     repeat' (first
      | refine q_s ?_ | refine q_z ?_ | refine q_b ?_ | refine q_n ?_ | refine q_nn ?_ | refine q_mv ?_ | refine q_faddr ?_ | refine q_faddrI ?_ | refine q_nilc ?_ | refine q_nilcI ?_
      | refine q_load ?_ | refine q_loadI ?_ | refine q_loadR ?_ | refine q_loadM ?_ | refine q_cmp ?_ | refine q_cmp2 (fun _ => ?_) (fun _ => ?_) | refine q_add ?_ | refine q_sub ?_
      | refine q_mul ?_ | refine q_pickT ?_ | refine q_pickF ?_ | refine q_notT ?_ | refine q_notF ?_ | refine q_ex ?_ | refine q_store ?_ | refine q_storeR ?_ | refine q_storeM ?_
      | refine q_box ?_ | refine q_idxAM ?_ | refine q_at ?_ | refine q_atM ?_ | refine q_atG ?_ | refine q_atR ?_ | refine q_buildS ?_ | refine q_app fun _ => ?_)
     exact ⟨.inr rfl, w', hgo, ⟨by rw [gav]; exact g1, g0, gm, gn, by rw [if_neg gne]; exact g5⟩, gne, by omega, gfr⟩
   rintro ex T2 H2 ⟨hex, w', hgo2, hwat, gne, gcnt, gfr⟩
   rw [hgo2]
   rcases hex with rfl | rfl
   ·exact ⟨Or.inr rfl, _, rfl, rfl, hwat, gcnt, gne, gfr⟩
   ·exact ⟨Or.inl rfl, _, rfl, rfl, hwat, gcnt, gne, gfr⟩
theorem goes2 (k : Nat) (hk : 1000042 ≤ k) (t f : Bool) (l : List UInt8) (n : Nat) (hl : l.length < 1000000) (hn : 64 * n ≤ l.length) (at0 frm : Nat) (hf : frm + 8 * 64 ≤ 512) (H : Heap) (w : WS) (hw : WAt t f l n H w) (he : w.nodes = []) (hb : w.bad = false) (hcount : w.nodes.length + 73 < 1000) :
  ∃ u H', CF k n___tree_Walk__goes 3 [.ptr 1 1 1 5 0 0, .int .i64 at0, .int .i64 (2 : Nat), .int .i64 frm] H = some (u, H') ∧ (u = .tup [] ∧ WAt t f l n H' (goesP l n 2 at0 frm w) ∧ (goesP l n 2 at0 frm w).nodes.length ≤ w.nodes.length + 73 ∧ ((goesP l n 2 at0 frm w).bad = false → (goesP l n 2 at0 frm w).nodes ≠ []) ∧ ∀ j, j < 3 → j ≠ 0 → j ≠ 1 → j ≠ 5 → H' j = H j) := by
 obtain ⟨hw1, hw0, hm, hnl, hw5⟩ := hw
 have hat := c_tree_At (k - 1) (by omega) t f l n at0 2 hl hn
 have hun := c_Under2 (k - 1) (by omega)
 have hpl := atP_len l n at0 2
 have hgo : goesP l n 2 at0 frm w = nodeW l n 2 at0 frm (goesP l n 1) w := rfl
 obtain ⟨⟨⟨v, ps⟩, is⟩, hx⟩ : ∃ x, x = atP l n at0 2 := ⟨_, rfl⟩
 unfold nodeW at hgo
 rw [← hx] at hat hpl hgo
 simp only at hpl hgo
 unfold Nod.av at hat
 simp only at hat
 obtain ⟨a1, a2, a3, a4, a5, a6, a7, a8, hps⟩ : ∃ a1 a2 a3 a4 a5 a6 a7 a8, ps = [a1, a2, a3, a4, a5, a6, a7, a8] := by
  match ps, hpl with
  | [a1, a2, a3, a4, a5, a6, a7, a8], _ => exact ⟨a1, a2, a3, a4, a5, a6, a7, a8, rfl⟩
 rw [hps] at hat
 have hct : FnV (CF (k - 1)) n_slices_Contains___int_int_ [.islc false true 0 [], .int .i64 at0] (.bool false) := c_ContainsE (k - 1) (by omega) false true 0 at0
 have hav : nodesAv w.nodes = .islc false true 0 [] := by unfold nodesAv; rw [if_pos he]
 rw [hav] at hw1
 rw [if_pos he] at hw5
 refine fni (by omega) B___tree_Walk__goes rfl ?_
 unfold __tree_Walk__goes
 cases is with
 | false =>
  rw [if_pos (.inl rfl)] at hgo
  rw [hgo]
  repeat' (first
   | refine q_s ?_ | refine q_z ?_ | refine q_b ?_ | refine q_nilc ?_ | refine q_loadR ?_ (hr := by exact hw1) | refine q_call hat ?_ | refine q_box (hl := by kernel_rfl) ?_
   | refine q_storeR ?_ (hr := by exact hw1) | refine q_n ?_ | refine q_nn ?_ | refine q_mv ?_ | refine q_faddr ?_ | refine q_faddrI ?_ | refine q_nilc ?_ | refine q_nilcI ?_
   | refine q_load ?_ | refine q_loadI ?_ | refine q_loadR ?_ | refine q_loadM ?_ | refine q_cmp ?_ | refine q_cmp2 (fun _ => ?_) (fun _ => ?_) | refine q_add ?_ | refine q_sub ?_
   | refine q_mul ?_ | refine q_pickT ?_ | refine q_pickF ?_ | refine q_notT ?_ | refine q_notF ?_ | refine q_ex ?_ | refine q_store ?_ | refine q_storeR ?_ | refine q_storeM ?_
   | refine q_box ?_ | refine q_idxAM ?_ | refine q_at ?_ | refine q_atM ?_ | refine q_atG ?_ | refine q_atR ?_ | refine q_buildS ?_ | refine q_app fun _ => ?_)
  refine ⟨Or.inr rfl, _, rfl, rfl, ⟨by rw [hav]; rfl, hw0, hm, hnl, by rw [if_pos he]; exact hw5⟩, by simp, (fun h => by cases h), (fun j h1 h2 h3 h4 => ?_)⟩
  have e1 : ∀ (H : Heap) b, H.upd 1 b j = H j := fun H b => upd_ne H b h3
  have e2 : ∀ (H : Heap) b, H.upd 3 b j = H j := fun H b => upd_ne H b (by omega)
  simp only [Heap.newRow, Heap.setRow, Nat.add_zero, e1, e2]
 | true =>
  cases hc : w.nodes.any (at0 == ·) with
  | true =>
   rw [he] at hc
   cases hc
  | false =>
   rw [hc] at hgo
   rw [if_neg (by simp)] at hgo
   repeat' (first
    | refine q_s ?_ | refine q_z ?_ | refine q_b ?_ | refine q_nilc ?_ | refine q_loadR ?_ (hr := by exact hw1) | refine q_call hat ?_ | refine q_call hct ?_
    | refine q_box (hl := by kernel_rfl) ?_ | refine q_storeR ?_ (hr := by exact hw1) | refine wo_app1N rfl rfl rfl rfl rfl rfl (fun _ => ?_) | refine q_n ?_ | refine q_nn ?_
    | refine q_mv ?_ | refine q_faddr ?_ | refine q_faddrI ?_ | refine q_nilc ?_ | refine q_nilcI ?_ | refine q_load ?_ | refine q_loadI ?_ | refine q_loadR ?_ | refine q_loadM ?_
    | refine q_cmp ?_ | refine q_cmp2 (fun _ => ?_) (fun _ => ?_) | refine q_add ?_ | refine q_sub ?_ | refine q_mul ?_ | refine q_pickT ?_ | refine q_pickF ?_ | refine q_notT ?_
    | refine q_notF ?_ | refine q_ex ?_ | refine q_store ?_ | refine q_storeR ?_ | refine q_storeM ?_ | refine q_box ?_ | refine q_idxAM ?_ | refine q_at ?_ | refine q_atM ?_
    | refine q_atG ?_ | refine q_atR ?_ | refine q_buildS ?_ | refine q_app fun _ => ?_)
   have e5 : NL (w.nodes ++ [at0]) = NL w.nodes ++ [.int .i64 at0] := by simp [NL]
   have hav1 : nodesAv (w.nodes ++ [at0]) = .slc 5 1 (w.nodes.length + 1) 1 0 (w.nodes.length + 1) none := by unfold nodesAv; rw [if_neg (by simp)]; simp
   refine W.mono (Q := fun ex T' H' => (ex = .ret ∨ ex = .exit 0) ∧ ∃ w', goesP l n 2 at0 frm w = w' ∧ WAt t f l n H' w' ∧ w'.nodes ≠ [] ∧ w'.nodes.length ≤ w.nodes.length + 73 ∧ ∀ j, j < 3 → j ≠ 0 → j ≠ 1 → j ≠ 5 → H' j = H j) ?_ ?_
   ·refine w_for 8 (fun i T' H' => ∃ w', goesP l n 2 at0 frm w = foldW n 2 frm (goesP l n 1) (ps.drop i) i w' ∧ WAt t f l n H' w' ∧ w'.nodes ≠ [] ∧ w'.nodes.length ≤ w.nodes.length + 1 + i * 9 ∧ (∀ j, j < 3 → j ≠ 0 → j ≠ 1 → j ≠ 5 → H' j = H j) ∧
      Has T' [(0, .ptr 1 1 1 5 0 0), (2, .int .i64 (2 : Nat)), (3, .int .i64 frm), (51, .agg (NL ps)), (52, .int .i64 (i : Nat))]) ⟨⟨w.m, w.nodes ++ [at0], w.bad⟩, hgo, ⟨?_, hw0, hm, by simp; omega, ?_⟩, by simp, by simp, ?_, rfl, rfl, rfl, by rw [hps]; rfl, rfl, trivial⟩ (by omega) ?_
    ·rw [hav1, he]
     show (⟨1, false, .row 5 [.agg [_, _, _, .slc 5 ((H 5).gen + 1) 1 1 0 1 none, _]]⟩ : Blk) = _
     rw [hw5]
     rfl
    ·rw [if_neg (by simp), e5, he]
     show (⟨(H 5).gen + 1, false, .row 1 [.int .i64 at0]⟩ : Blk) = _
     rw [hw5]
     rfl
    ·intro j h1 h2 h3 h4
     have e1 : ∀ (H : Heap) b, H.upd 1 b j = H j := fun H b => upd_ne H b h3
     have e2 : ∀ (H : Heap) b, H.upd 3 b j = H j := fun H b => upd_ne H b (by omega)
     have e3 : ∀ (H : Heap) b, H.upd (3 + 1) b j = H j := fun H b => upd_ne H b (by omega)
     have e4 : ∀ (H : Heap) b, H.upd 5 b j = H j := fun H b => upd_ne H b h4
     have e6 : ∀ (H : Heap) b, H.upd (3 + 2) b j = H j := fun H b => upd_ne H b (by omega)
     simp only [Heap.newRow, Heap.setRow, Nat.add_zero, e1, e2, e3, e4, e6]
    clear hw1 hw0 hw5 hat hct hgo hav hav1 e5 hc
    rintro i T H2 hi ⟨w', hgo, ⟨g1, g0, gm, gn, g5⟩, gne, gcnt, gfr, hT⟩
    rw [if_neg gne] at g5
    have gav : nodesAv w'.nodes = .slc 5 1 w'.nodes.length 1 0 w'.nodes.length none := by unfold nodesAv; rw [if_neg gne]
    rw [gav] at g1
    rw [hT.eq]
    simp only [over]
    by_cases hil : i < 8
    ·rw [drop_getD (show i < ps.length by omega)] at hgo
     obtain ⟨p, hp⟩ : ∃ p, p = ps.getD i default := ⟨_, rfl⟩
     have hp2 : ps.getD (i : Int).toNat default = p := hp.symm
     rw [← hp] at hgo
     have hi8 : (ps.map fun n : Nat => AV.int .i64 n) = NL ps := rfl
     cases hbd : w'.bad with
     | true =>
      rw [hbd] at g1
      rw [foldW_bad _ _ hbd] at hgo
      repeat' (first
       | refine q_s ?_ | refine q_z ?_ | refine q_b ?_ | refine wo_idxV (enc := fun n : Nat => AV.int .i64 n) p rfl rfl hpl (by omega) (by omega) hp2 rfl rfl ?_ | refine q_nilc ?_
       | refine q_loadR ?_ (hr := by exact g1) | refine q_n ?_ | refine q_nn ?_ | refine q_mv ?_ | refine q_faddr ?_ | refine q_faddrI ?_ | refine q_nilc ?_ | refine q_nilcI ?_
       | refine q_load ?_ | refine q_loadI ?_ | refine q_loadR ?_ | refine q_loadM ?_ | refine q_cmp ?_ | refine q_cmp2 (fun _ => ?_) (fun _ => ?_) | refine q_add ?_ | refine q_sub ?_
       | refine q_mul ?_ | refine q_pickT ?_ | refine q_pickF ?_ | refine q_notT ?_ | refine q_notF ?_ | refine q_ex ?_ | refine q_store ?_ | refine q_storeR ?_ | refine q_storeM ?_
       | refine q_box ?_ | refine q_idxAM ?_ | refine q_at ?_ | refine q_atM ?_ | refine q_atG ?_ | refine q_atR ?_ | refine q_buildS ?_ | refine q_app fun _ => ?_
       | refine q_callB (hun) (fun _ => ?_) (fun _ => ?_) | refine q_call (hun) ?_)
      exact ⟨.inl rfl, w', hgo, ⟨by rw [gav, hbd]; exact g1, g0, gm, gn, by rw [if_neg gne]; exact g5⟩, gne, by omega, gfr⟩
     | false =>
      rw [hbd] at g1
      simp only [foldW] at hgo
      unfold stepW at hgo
      rw [if_neg (by simp [hbd])] at hgo
      by_cases hpn : n ≤ p
      ·rw [if_pos hpn] at hgo
       repeat' (first
        | refine q_s ?_ | refine q_z ?_ | refine q_b ?_ | refine wo_idxV (enc := fun n : Nat => AV.int .i64 n) p rfl rfl hpl (by omega) (by omega) hp2 rfl rfl ?_ | refine q_nilc ?_
        | refine q_loadR ?_ (hr := by exact g1) | refine q_storeR ?_ (hr := by exact g1) | refine q_n ?_ | refine q_nn ?_ | refine q_mv ?_ | refine q_faddr ?_ | refine q_faddrI ?_
        | refine q_nilc ?_ | refine q_nilcI ?_ | refine q_load ?_ | refine q_loadI ?_ | refine q_loadR ?_ | refine q_loadM ?_ | refine q_cmp ?_
        | refine q_cmp2 (fun _ => ?_) (fun _ => ?_) | refine q_add ?_ | refine q_sub ?_ | refine q_mul ?_ | refine q_pickT ?_ | refine q_pickF ?_ | refine q_notT ?_ | refine q_notF ?_
        | refine q_ex ?_ | refine q_store ?_ | refine q_storeR ?_ | refine q_storeM ?_ | refine q_box ?_ | refine q_idxAM ?_ | refine q_at ?_ | refine q_atM ?_ | refine q_atG ?_
        | refine q_atR ?_ | refine q_buildS ?_ | refine q_app fun _ => ?_ | refine q_callB (hun) (fun _ => ?_) (fun _ => ?_) | refine q_call (hun) ?_)
       refine ⟨hil, _, hgo, ⟨by rw [gav]; rfl, g0, gm, gn, by rw [if_neg gne]; exact g5⟩, gne, by show w'.nodes.length ≤ _; omega, fun j h1 h2 h3 h4 => ?_, rfl, rfl, rfl, rfl, by show AV.int _ _ = AV.int _ _; congr 1, trivial⟩
       rw [upd_ne _ _ h3]
       exact gfr j h1 h2 h3 h4
      rw [if_neg hpn] at hgo
      by_cases hp0 : p = 0
      ·rw [if_pos hp0] at hgo
       repeat' (first
        | refine q_s ?_ | refine q_z ?_ | refine q_b ?_ | refine wo_idxV (enc := fun n : Nat => AV.int .i64 n) p rfl rfl hpl (by omega) (by omega) hp2 rfl rfl ?_ | refine q_nilc ?_
        | refine q_loadR ?_ (hr := by exact g1) | refine q_n ?_ | refine q_nn ?_ | refine q_mv ?_ | refine q_faddr ?_ | refine q_faddrI ?_ | refine q_nilc ?_ | refine q_nilcI ?_
        | refine q_load ?_ | refine q_loadI ?_ | refine q_loadR ?_ | refine q_loadM ?_ | refine q_cmp ?_ | refine q_cmp2 (fun _ => ?_) (fun _ => ?_) | refine q_add ?_ | refine q_sub ?_
        | refine q_mul ?_ | refine q_pickT ?_ | refine q_pickF ?_ | refine q_notT ?_ | refine q_notF ?_ | refine q_ex ?_ | refine q_store ?_ | refine q_storeR ?_ | refine q_storeM ?_
        | refine q_box ?_ | refine q_idxAM ?_ | refine q_at ?_ | refine q_atM ?_ | refine q_atG ?_ | refine q_atR ?_ | refine q_buildS ?_ | refine q_app fun _ => ?_
        | refine q_callB (hun) (fun _ => ?_) (fun _ => ?_) | refine q_call (hun) ?_)
       exact ⟨hil, w', hgo, ⟨by rw [gav, hbd]; exact g1, g0, gm, gn, by rw [if_neg gne]; exact g5⟩, gne, by omega, gfr, rfl, rfl, rfl, rfl, by show AV.int _ _ = AV.int _ _; congr 1, trivial⟩
      rw [if_neg hp0] at hgo
      rw [if_neg (by decide)] at hgo
      have hrec := goes1 (k - 1) (by omega) t f l n hl hn p (frm + i * 8 ^ 2) (by omega) H2 w' ⟨by rw [gav, hbd]; exact g1, g0, gm, gn, by rw [if_neg gne]; exact g5⟩ gne hbd (by omega)
      repeat' (first
       | refine q_s ?_ | refine q_z ?_ | refine q_b ?_ | refine wo_idxV (enc := fun n : Nat => AV.int .i64 n) p rfl rfl hpl (by omega) (by omega) hp2 rfl rfl ?_ | refine q_nilc ?_
       | refine q_loadR ?_ (hr := by exact g1) | refine wo_inlE hrec rfl rfl rfl ?_ | refine q_n ?_ | refine q_nn ?_ | refine q_mv ?_ | refine q_faddr ?_ | refine q_faddrI ?_
       | refine q_nilc ?_ | refine q_nilcI ?_ | refine q_load ?_ | refine q_loadI ?_ | refine q_loadR ?_ | refine q_loadM ?_ | refine q_cmp ?_ | refine q_cmp2 (fun _ => ?_) (fun _ => ?_)
       | refine q_add ?_ | refine q_sub ?_ | refine q_mul ?_ | refine q_pickT ?_ | refine q_pickF ?_ | refine q_notT ?_ | refine q_notF ?_ | refine q_ex ?_ | refine q_store ?_
       | refine q_storeR ?_ | refine q_storeM ?_ | refine q_box ?_ | refine q_idxAM ?_ | refine q_at ?_ | refine q_atM ?_ | refine q_atG ?_ | refine q_atR ?_ | refine q_buildS ?_
       | refine q_app fun _ => ?_ | refine q_callB (hun) (fun _ => ?_) (fun _ => ?_) | refine q_call (hun) ?_)
      rintro u H3 ⟨rfl, hwt, hct, hnn, hfr⟩
      repeat' (first
       | refine q_s ?_ | refine q_z ?_ | refine q_b ?_ | refine q_n ?_ | refine q_nn ?_ | refine q_mv ?_ | refine q_faddr ?_ | refine q_faddrI ?_ | refine q_nilc ?_ | refine q_nilcI ?_
       | refine q_load ?_ | refine q_loadI ?_ | refine q_loadR ?_ | refine q_loadM ?_ | refine q_cmp ?_ | refine q_cmp2 (fun _ => ?_) (fun _ => ?_) | refine q_add ?_ | refine q_sub ?_
       | refine q_mul ?_ | refine q_pickT ?_ | refine q_pickF ?_ | refine q_notT ?_ | refine q_notF ?_ | refine q_ex ?_ | refine q_store ?_ | refine q_storeR ?_ | refine q_storeM ?_
       | refine q_box ?_ | refine q_idxAM ?_ | refine q_at ?_ | refine q_atM ?_ | refine q_atG ?_ | refine q_atR ?_ | refine q_buildS ?_ | refine q_app fun _ => ?_)
      refine ⟨hil, _, hgo, hwt, hnn, by omega, fun j h1 h2 h3 h4 => by rw [hfr j (by omega) h2 h3 h4]; exact gfr j h1 h2 h3 h4, rfl, rfl, rfl, rfl, by show AV.int _ _ = AV.int _ _; congr 1, trivial⟩
    ·have hin : i = 8 := by omega
     rw [List.drop_of_length_le (by omega)] at hgo
     simp only [foldW] at hgo
     repeat' (first
      | refine q_s ?_ | refine q_z ?_ | refine q_b ?_ | refine q_n ?_ | refine q_nn ?_ | refine q_mv ?_ | refine q_faddr ?_ | refine q_faddrI ?_ | refine q_nilc ?_ | refine q_nilcI ?_
      | refine q_load ?_ | refine q_loadI ?_ | refine q_loadR ?_ | refine q_loadM ?_ | refine q_cmp ?_ | refine q_cmp2 (fun _ => ?_) (fun _ => ?_) | refine q_add ?_ | refine q_sub ?_
      | refine q_mul ?_ | refine q_pickT ?_ | refine q_pickF ?_ | refine q_notT ?_ | refine q_notF ?_ | refine q_ex ?_ | refine q_store ?_ | refine q_storeR ?_ | refine q_storeM ?_
      | refine q_box ?_ | refine q_idxAM ?_ | refine q_at ?_ | refine q_atM ?_ | refine q_atG ?_ | refine q_atR ?_ | refine q_buildS ?_ | refine q_app fun _ => ?_)
     exact ⟨.inr rfl, w', hgo, ⟨by rw [gav]; exact g1, g0, gm, gn, by rw [if_neg gne]; exact g5⟩, gne, by omega, gfr⟩
   rintro ex T2 H2 ⟨hex, w', hgo2, hwat, gne, gcnt, gfr⟩
   rw [hgo2]
   rcases hex with rfl | rfl
   ·exact ⟨Or.inr rfl, _, rfl, rfl, hwat, gcnt, fun _ => gne, gfr⟩
   ·exact ⟨Or.inl rfl, _, rfl, rfl, hwat, gcnt, fun _ => gne, gfr⟩
end Go.Proofs.Ytkaiiopoilpjeaa

