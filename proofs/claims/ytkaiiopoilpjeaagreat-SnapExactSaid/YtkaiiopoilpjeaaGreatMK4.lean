/- Lemmas. -/
import Derived.Test.YtkaiiopoilpjeaaGreatK19
set_option linter.unusedSimpArgs false
set_option linter.unusedVariables false
set_option maxRecDepth 10000
set_option maxHeartbeats 16000000
namespace Go.Proofs.YtkaiiopoilpjeaaGreat
open Go.AI
attribute [local irreducible] aops aexec acall aiter aop W WO
def rstepsL (s : Sup) (slot : Nat) (ios : List IoV) (root size first : Nat) : List IoV := ios ++ [flushIo, wIo (1 - slot) (supB (nextS s root size first)), flushIo]
theorem rstepsL_t {s : Sup} {slot : Nat} {ios : List IoV} {root size first : Nat} (h : ∀ x ∈ ios, x.t = false) : ∀ x ∈ rstepsL s slot ios root size first, x.t = false := by
 intro x hx
 unfold rstepsL at hx
 rcases List.mem_append.1 hx with hx | hx
 ·exact h x hx
 ·simp only [List.mem_cons, List.not_mem_nil, or_false] at hx
  rcases hx with rfl | rfl | rfl <;> rfl
theorem norefs_ios : ∀ l : List IoV, norefsL (l.map IoV.av) = true
 | [] => rfl
 | x :: l => by
  show (x.av.norefs && norefsL (l.map IoV.av)) = true
  rw [norefs_ios l, Bool.and_true]; rfl
theorem r_Commit (k : Nat) (hk : 1000300 ≤ k) (s : Sup) (slot : Nat) (recs : List Rec) (ios : List IoV) (t f : Bool) (s' root size first : Nat) (hi : slot ≤ 1) (hs' : s' = 3 ∨ ios = []) (hl : ios.length < 1000) (ht : ∀ x ∈ ios, x.t = false)
  (hb : s.gen < 4611686018427387903 ∧ s.blocks < 4611686018427387904 ∧ root < 4611686018427387904 ∧ size < 4611686018427387904 ∧ first < 4611686018427387904) :
  FnV (CF k) n_ref10_Commit [.agg [.int .i64 s.gen, .int .i64 s.blocks, .int .i64 s.root, .int .i64 s.size, .int .i64 s.first, .int .i64 slot, .islc false false 8 (recs.map Rec.av)], .islc t f s' (ios.map IoV.av), .int .i64 root, .int .i64 size, .int .i64 first] (.islc false false 3 ((rstepsL s slot ios root size first).map IoV.av)) := by
 obtain ⟨g, b, r, z, fi⟩ := s
 simp only at hb ⊢
 have hsb := r_SuperBytes (k - 1) (by omega) ⟨g + 1, b, root, size, first⟩ (by simp only; omega)
 unfold Sup.av at hsb
 simp only at hsb
 have hsb' : FnV (CF (k - 1)) n_ref01_SuperBytes [.agg [.int .i64 ((g : Int) + 1), .int .i64 b, .int .i64 root, .int .i64 size, .int .i64 first]] (.islc false false 1 (BL (supB ⟨g + 1, b, root, size, first⟩))) := hsb
 have hml : (ios.map IoV.av).length = ios.length := List.length_map _
 have hsl : (1 : Int) - slot = ((1 - slot : Nat) : Int) := by omega
 refine fnk (by omega) B_ref10_Commit rfl ?_
 unfold ref10_Commit
 obtain ⟨B, hB⟩ : ∃ B, B = supB ⟨g + 1, b, root, size, first⟩ := ⟨_, rfl⟩
 rw [← hB] at hsb'
 repeat' (first
  | refine qS ?_ | refine wo_appG (es := []) rfl rfl (by rcases hs' with h | h; exact .inl h; exact .inr (by rw [h]; rfl)) (by rfl) rfl (norefs_ios ios) (by omega) rfl rfl (fun _ => ?_)
  | (rw [hsl]) | refine q_callB (hsb') (fun _ => ?_) (fun _ => ?_) | refine q_call (hsb') ?_ | refine qQb ?_ | refine q_app fun _ => ?_)
 refine wo_cut [(27, .slc 2 1 (0 + (ios.map IoV.av).length) 3 0 (0 + (ios.map IoV.av).length) none), (36, .slc 5 1 3 3 0 3 none)] [(2, ⟨1, false, .row 3 ([] ++ ios.map IoV.av)⟩), (5, ⟨1, false, .row 3 [flushIo.av, IoV.av (wIo (1 - slot) B), flushIo.av]⟩)] ⟨by kernel_rfl, by kernel_rfl, trivial⟩ ⟨by kernel_rfl, by kernel_rfl, trivial⟩ (fun T H hT hH => ?_)
 obtain ⟨h2, h5, -⟩ := hH
 simp only [over]
 repeat' (first | refine qS ?_ | refine wo_appM rfl rfl (by exact h5) (by exact h2) rfl rfl (by simp) rfl (by omega) rfl rfl (fun _ => ?_) | refine qQb ?_ | refine q_app fun _ => ?_)
 refine ⟨Or.inr rfl, .slc 2 1 (0 + (ios.map IoV.av).length + 3) 3 0 (0 + (ios.map IoV.av).length + 3) none, rfl, ?_⟩
 generalize hH : Heap.upd _ _ _ = H6
 have r2 : H6 2 = ⟨1, false, .row 3 ((rstepsL ⟨g, b, r, z, fi⟩ slot ios root size first).map IoV.av)⟩ := by
  rw [← hH]
  show (⟨1, false, .row 3 ([] ++ ios.map IoV.av ++ [flushIo.av, IoV.av (wIo (1 - slot) B), flushIo.av])⟩ : Blk) = _
  unfold rstepsL
  rw [List.nil_append, List.map_append, hB]; rfl
 show fz true (3 + 3) H6 (.slc 2 1 (0 + (ios.map IoV.av).length + 3) 3 0 (0 + (ios.map IoV.av).length + 3) none) = _
 rw [fz_ownO r2 (by unfold rstepsL; simp) (rstepsL_t ht) 3]; rfl
end Go.Proofs.YtkaiiopoilpjeaaGreat
set_option linter.unusedSimpArgs false
set_option linter.unusedVariables false
set_option maxRecDepth 10000
set_option maxHeartbeats 16000000
namespace Go.Proofs.YtkaiiopoilpjeaaGreat
open Go.AI
theorem idxL_t {α : Type} {p : α → Bool} {x : α} {l : List α} {i : Nat} (h : p x = true) : idxL p (x :: l) i = i := by unfold idxL; rw [if_pos h]
theorem idxL_f {α : Type} {p : α → Bool} {x : α} {l : List α} {i : Nat} (h : p x = false) : idxL p (x :: l) i = idxL p l (i + 1) := by
 rw [idxL, if_neg (by rw [h]; decide)]
attribute [local irreducible] aops aexec acall aiter aop W WO
theorem r_Find (k : Nat) (hk : 1000000 < k) (recs : List Rec) (g b r z fi slot : Nat) (id : Int) (hl : recs.length < 900) : FnV (CF k) n_ref18_Find [.agg [.int .i64 g, .int .i64 b, .int .i64 r, .int .i64 z, .int .i64 fi, .int .i64 slot, .islc false false 8 (recs.map Rec.av)], .int .i64 id] (.int .i64 (findP recs id)) := by
 have hrl : (recs.map Rec.av).length = recs.length := List.length_map _
 refine fnk (by omega) B_ref18_Find rfl ?_
 unfold ref18_Find
 repeat' (first | refine qS ?_ | refine qN ?_ | refine qQb ?_ | refine q_cmp2 (fun _ => ?_) (fun _ => ?_))
 refine w_cut [(1, .int .i64 id), (2, .ptr 0 1 1 7 0 0), (5, .int .i64 0)] [(0, ⟨1, false, .row 7 [.agg [.int .i64 g, .int .i64 b, .int .i64 r, .int .i64 z, .int .i64 fi, .int .i64 slot, .islc false false 8 (recs.map Rec.av)]]⟩)] ⟨by kernel_rfl, by kernel_rfl, by kernel_rfl, trivial⟩ ⟨by kernel_rfl, trivial⟩ (fun T H hT hH => ?_)
 obtain ⟨h0, -⟩ := hH
 simp only [over]
 clear hT
 refine W.mono (Q := fun ex T' H' => (ex = .exit 0 ∧ findP recs id = -1) ∨ (ex = .ret ∧ T' 4 = .int .i64 (findP recs id))) ?_ ?_
 ·refine w_for recs.length (fun i T' H' => H' 0 = ⟨1, false, .row 7 [.agg [.int .i64 g, .int .i64 b, .int .i64 r, .int .i64 z, .int .i64 fi, .int .i64 slot, .islc false false 8 (recs.map Rec.av)]]⟩ ∧ findP recs id = idxL (fun r => decide ((r.id : Int) = id ∧ r.kind = 0)) (recs.drop i) i ∧ Has T' [(1, .int .i64 id), (2, .ptr 0 1 1 7 0 0), (5, .int .i64 (i : Nat))]) ⟨h0, rfl, rfl, rfl, rfl, trivial⟩ (by omega) ?_
  clear h0
  rintro i T H hi ⟨h0, hgo, hT⟩
  rw [hT.eq]
  simp only [over]
  by_cases hil : i < recs.length
  ·obtain ⟨⟨b1, b2, b3, b4, b5, b6, b7, b8⟩, hr⟩ : ∃ r, r = recs[i] := ⟨_, rfl⟩
   have he2 : (recs.map Rec.av)[(i : Int).toNat]? = some (.agg [.int .i64 b1, .int .i64 b2, .int .i64 b3, .int .i64 b4, .int .i64 b5, .int .i64 b6, .int .i64 b7, .int .i64 b8]) := by
    rw [Int.toNat_natCast, List.getElem?_map, List.getElem?_eq_getElem hil, ← hr]; rfl
   rw [List.drop_eq_getElem_cons hil, ← hr] at hgo
   by_cases hid : (b2 : Int) = id
   ·by_cases hk0 : b6 = 0
    ·have hk0' : (b6 : Int) = 0 := by omega
     rw [idxL_t (p := fun r : Rec => decide ((r.id : Int) = id ∧ r.kind = 0)) (x := ⟨b1, b2, b3, b4, b5, b6, b7, b8⟩) (decide_eq_true ⟨hid, hk0⟩)] at hgo
     repeat' (first
      | refine qS ?_ | refine qN ?_ | refine q_loadR ?_ (hr := by exact h0) | refine wo_lenG (n := recs.length) rfl hrl rfl rfl ?_ | refine wo_atG rfl rfl (by omega) he2 rfl rfl ?_
      | refine qQba ?_ | refine q_cmp2 (fun _ => ?_) (fun _ => ?_))
     exact .inr ⟨rfl, by rw [hgo]; rfl⟩
    ·have hk0' : (b6 : Int) ≠ 0 := by omega
     rw [idxL_f (p := fun r : Rec => decide ((r.id : Int) = id ∧ r.kind = 0)) (x := ⟨b1, b2, b3, b4, b5, b6, b7, b8⟩) (decide_eq_false (fun h => hk0 h.2))] at hgo
     repeat' (first
      | refine qS ?_ | refine qN ?_ | refine q_loadR ?_ (hr := by exact h0) | refine wo_lenG (n := recs.length) rfl hrl rfl rfl ?_ | refine wo_atG rfl rfl (by omega) he2 rfl rfl ?_
      | refine qQba ?_ | refine q_cmp2 (fun _ => ?_) (fun _ => ?_))
     exact ⟨hil, h0, hgo, rfl, rfl, by show AV.int _ _ = AV.int _ _; congr 1, trivial⟩
   ·rw [idxL_f (p := fun r : Rec => decide ((r.id : Int) = id ∧ r.kind = 0)) (x := ⟨b1, b2, b3, b4, b5, b6, b7, b8⟩) (decide_eq_false (fun h => hid h.1))] at hgo
    repeat' (first
     | refine qS ?_ | refine qN ?_ | refine q_loadR ?_ (hr := by exact h0) | refine wo_lenG (n := recs.length) rfl hrl rfl rfl ?_ | refine wo_atG rfl rfl (by omega) he2 rfl rfl ?_
     | refine qQba ?_ | refine q_cmp2 (fun _ => ?_) (fun _ => ?_))
    exact ⟨hil, h0, hgo, rfl, rfl, by show AV.int _ _ = AV.int _ _; congr 1, trivial⟩
  ·rw [List.drop_of_length_le (by omega)] at hgo
   repeat' (first | refine qS ?_ | refine qN ?_ | refine q_loadR ?_ (hr := by exact h0) | refine wo_lenG (n := recs.length) rfl hrl rfl rfl ?_ | refine qQba ?_ | refine q_cmp2 (fun _ => ?_) (fun _ => ?_))
   exact .inl ⟨rfl, hgo⟩
 rintro ex T2 H2 (⟨rfl, hf⟩ | ⟨rfl, h4⟩)
 ·rw [hf]
  show W _ _
  repeat' (first | refine qS ?_ | refine qN ?_ | refine qQb ?_ | refine q_cmp2 (fun _ => ?_) (fun _ => ?_))
  exact ⟨Or.inr rfl, _, rfl, rfl⟩
 ·refine ⟨Or.inr rfl, _, rfl, ?_⟩
  show fz true 6 H2 (T2 4) = _
  rw [h4]; rfl
theorem r_pending (k : Nat) (hk : 10 ≤ k) (recs : List Rec) (g b r z fi slot : Nat) : FnV (CF k) n_ref18_pending [.agg [.int .i64 g, .int .i64 b, .int .i64 r, .int .i64 z, .int .i64 fi, .int .i64 slot, .islc false false 8 (recs.map Rec.av)]] (.bool (pendP recs).isSome) := by
 refine fnk (by omega) B_ref18_pending rfl ?_
 unfold ref18_pending
 cases recs with
 | nil =>
  repeat' (first | refine qS ?_ | refine qN ?_ | refine wo_lenG (n := 0) rfl rfl rfl rfl ?_ | refine qQb ?_ | refine q_cmp2 (fun _ => ?_) (fun _ => ?_))
  exact ⟨Or.inr rfl, _, rfl, rfl⟩
 | cons q rs =>
  obtain ⟨b1, b2, b3, b4, b5, b6, b7, b8⟩ := q
  have hln : ((⟨b1, b2, b3, b4, b5, b6, b7, b8⟩ :: rs : List Rec).map Rec.av).length = rs.length + 1 := by simp
  have he : ((⟨b1, b2, b3, b4, b5, b6, b7, b8⟩ :: rs : List Rec).map Rec.av)[(0 : Int).toNat]? = some (.agg [.int .i64 b1, .int .i64 b2, .int .i64 b3, .int .i64 b4, .int .i64 b5, .int .i64 b6, .int .i64 b7, .int .i64 b8]) := rfl
  simp only [pendP]
  by_cases h : b6 = 1
  ·subst h
   rw [if_pos rfl]
   repeat' (first | refine qS ?_ | refine qN ?_ | refine wo_lenG (n := rs.length + 1) rfl hln rfl rfl ?_ | refine wo_atG rfl rfl (by omega) he rfl rfl ?_ | refine qQba ?_ | refine q_cmp2 (fun _ => ?_) (fun _ => ?_))
   exact ⟨Or.inr rfl, _, rfl, rfl⟩
  ·rw [if_neg h]
   have h' : (b6 : Int) ≠ 1 := by omega
   repeat' (first | refine qS ?_ | refine qN ?_ | refine wo_lenG (n := rs.length + 1) rfl hln rfl rfl ?_ | refine wo_atG rfl rfl (by omega) he rfl rfl ?_ | refine qQba ?_ | refine q_cmp2 (fun _ => ?_) (fun _ => ?_))
   exact ⟨Or.inr rfl, _, rfl, rfl⟩
theorem iosW_chain : ∀ (rs : List Rec) (fs : List Nat) (p : Nat), iosW (chainL rs fs p) = chainL rs fs p
 | [], _, _ => rfl
 | _ :: _, [], _ => rfl
 | r :: rs, a :: fs, p => by
  simp only [chainL]
  unfold iosW
  rw [List.map_cons]
  have := iosW_chain rs fs a
  unfold iosW at this
  rw [this]; rfl
theorem r_chain (k : Nat) (hk : 1000500 ≤ k) (f : Bool) (l : List UInt8) (hd : Dev l) (x : Img) (hx : x.fit l) (n : Nat) (first : Rec) (wth : Bool) (hn : n ≤ x.recs.length) (hfo : wth = true → ({ first with next := 0 } : Rec).ok) :
  FnV (CF k) n_ref18_chain [.islc false f 1 (BL l), .agg x.rcs, .int .i64 n, first.av, .bool wth] (iosAv (makesP l x n first wth)) := by
 have hnb := hd.nb
 obtain ⟨hcn, hcm⟩ := r_Counts (k - 1) (by omega) f l hd x hx
 have hfr := r_Free (k - 1) (by omega) false false (pcounts l x) (by rw [pcounts_len]; omega) (by rw [pcounts_len]; omega) hcm
 rw [pfree hd hx] at hfr
 have hfl := freeP_len (countsP l x)
 have hcl := (countsP_cb hx).1
 have hfm : ∀ a ∈ freeP (countsP l x), 2 ≤ a ∧ a < nb l := fun a ha => by have := freeP_mem ha; rw [hcl] at this; exact this
 have hch := r_Chain (k - 1) (by omega) x.recs x.blocks n first wth (freeP (countsP l x)) (by have := hx.few; omega) hx.len hn hx.recs hfo (fun a ha => by have := hx.blk a ha; omega) (fun a ha => by have := hfm a ha; omega) (by omega)
 have hp : x.blocks.getD n default = 0 ∨ 2 ≤ x.blocks.getD n default ∧ x.blocks.getD n default < nb l := by
  by_cases h : n < x.blocks.length
  ·right
   rw [List.getD_eq_getElem?_getD, List.getElem?_eq_getElem h]
   exact hx.blk _ (List.getElem_mem h)
  ·left
   rw [List.getD_eq_getElem?_getD, List.getElem?_eq_none (by omega)]; rfl
 have hE := chainE_ok (n := nb l) (anewP x.recs n first wth) (freeP (countsP l x)) (x.blocks.getD n default) hfm hp
 have hLl := chainL_len (anewP x.recs n first wth) (freeP (countsP l x)) (x.blocks.getD n default)
 have hLt := chainL_t (anewP x.recs n first wth) (freeP (countsP l x)) (x.blocks.getD n default)
 have hiw := iosW_chain (anewP x.recs n first wth) (freeP (countsP l x)) (x.blocks.getD n default)
 have hal : (anewP x.recs n first wth).length < 900 := by
  have := hx.few
  unfold anewP
  rw [List.length_append, List.length_reverse, List.length_take]
  cases wth <;> simp <;> omega
 obtain ⟨e, he⟩ : ∃ e, e = chainE (anewP x.recs n first wth) (freeP (countsP l x)) (x.blocks.getD n default) := ⟨_, rfl⟩
 obtain ⟨ios, hios⟩ : ∃ e, e = chainL (anewP x.recs n first wth) (freeP (countsP l x)) (x.blocks.getD n default) := ⟨_, rfl⟩
 have hsok := hx.sup
 have hblk := hx.blocks
 have hgl : x.sup.gen ≤ 1099511627776 := hsok.1.2
 have hroot := hsok.2.2.2.1
 have hsz := hsok.2.2.1
 rw [← he] at hE
 rw [← hios] at hLl hLt hiw
 have hct := r_Commit (k - 1) (by omega) x.sup x.slot x.recs ios false false 3 x.sup.root x.sup.size e hx.slot (.inl rfl) (by omega) hLt ⟨by omega, by have := hsok.2.1; omega, by have := hsok.2.1; omega, by omega, by have := hsok.2.1; omega⟩
 have hst : rstepsL x.sup x.slot ios x.sup.root x.sup.size e = stepsL x.sup x.slot ios x.sup.root x.sup.size e := by unfold rstepsL stepsL; rw [hiw]
 rw [hst] at hct
 unfold makesP
 unfold rchAv at hch
 rw [← he, ← hios] at hch ⊢
 obtain ⟨b1, b2, b3, b4, b5, b6, b7, b8⟩ := first
 unfold Rec.av at hch ⊢
 simp only at hch ⊢
 obtain ⟨fr, hfr0⟩ : ∃ q, q = freeP (countsP l x) := ⟨_, rfl⟩
 rw [← hfr0] at hfr hch ⊢
 obtain ⟨an, han⟩ : ∃ q, q = anewP x.recs n ⟨b1, b2, b3, b4, b5, b6, b7, b8⟩ wth := ⟨_, rfl⟩
 rw [← han] at hch ⊢
 generalize pcounts l x = pc at hcn hfr
 have hgb : ¬ x.sup.gen < 1099511627776 ∨ x.sup.gen < 1099511627776 := by omega
 clear hfl hcl hfm hE hLl hLt hiw hal he hios hst hfr0 han hcm hsok hblk hgl hroot hsz hp hfo hn hx
 obtain ⟨⟨g, b, r, z, fi⟩, slot, recs, blocks, trees⟩ := x
 unfold Img.rcs at hcn ⊢
 simp only at hcn hfr hch hct hgb ⊢
 refine fnk (by omega) B_ref18_chain rfl ?_
 unfold ref18_chain
 by_cases hg : g < 1099511627776
 ·rw [if_neg (by omega)]
  by_cases hsp : fr.length < an.length
  ·rw [if_pos hsp] at hch ⊢
   repeat' (first
    | refine q_callB (hcn) (fun _ => ?_) (fun _ => ?_) | refine q_call (hcn) ?_ | refine q_callB (hfr) (fun _ => ?_) (fun _ => ?_) | refine q_call (hfr) ?_
    | refine q_callB (hch) (fun _ => ?_) (fun _ => ?_) | refine q_call (hch) ?_ | refine qQb ?_ | refine q_cmp2 (fun _ => ?_) (fun _ => ?_))
   exact ⟨Or.inr rfl, _, rfl, rfl⟩
  ·rw [if_neg hsp] at hch ⊢
   repeat' (first
    | refine q_callB (hcn) (fun _ => ?_) (fun _ => ?_) | refine q_call (hcn) ?_ | refine q_callB (hfr) (fun _ => ?_) (fun _ => ?_) | refine q_call (hfr) ?_
    | refine q_callB (hch) (fun _ => ?_) (fun _ => ?_) | refine q_call (hch) ?_ | refine q_callB (hct) (fun _ => ?_) (fun _ => ?_) | refine q_call (hct) ?_ | refine qQb ?_
    | refine q_cmp2 (fun _ => ?_) (fun _ => ?_))
   exact ⟨Or.inr rfl, _, rfl, rfl⟩
 ·rw [if_pos hg]
  repeat' (first | refine qQb ?_ | refine q_cmp2 (fun _ => ?_) (fun _ => ?_))
  exact ⟨Or.inr rfl, _, rfl, rfl⟩
end Go.Proofs.YtkaiiopoilpjeaaGreat
set_option linter.unusedSimpArgs false
set_option linter.unusedVariables false
set_option maxRecDepth 10000
set_option maxHeartbeats 16000000
namespace Go.Proofs.YtkaiiopoilpjeaaGreat
open Go.AI
theorem find_any {recs : List Rec} {id : Int} (hk : ∀ r ∈ recs, r.kind = 0) : (recs.any fun r => decide ((r.id : Int) = id)) = decide (0 ≤ findP recs id) := by
 unfold findP
 rcases idxL_spec (p := fun r : Rec => decide ((r.id : Int) = id ∧ r.kind = 0)) recs 0 with ⟨h1, h2⟩ | ⟨j, hj, h1, h2, h3⟩
 ·rw [h1, decide_eq_false (by decide), List.any_eq_false]
  intro r hr
  have := h2 r hr
  simp only [decide_eq_false_iff_not] at this
  simp only [decide_eq_true_eq]
  exact fun h => this ⟨h, hk r hr⟩
 ·rw [h1, decide_eq_true (by omega), List.any_eq_true]
  exact ⟨recs[j], List.getElem_mem hj, decide_eq_true (of_decide_eq_true h2).1⟩
theorem pend_none {recs : List Rec} (hg : goodRecs recs) (ho : ∀ r ∈ recs, r.ok) (h : (pendP recs).isSome = false) : ∀ r ∈ recs, r.kind = 0 := by
 cases recs with
 | nil => intro r hr; cases hr
 | cons q rs =>
  intro r hr
  rcases List.mem_cons.1 hr with rfl | hr
  ·rcases Rec.ok_kind (ho r (List.mem_cons_self ..)) with h0 | h1
   ·exact h0
   ·simp only [pendP] at h; rw [if_pos h1] at h; cases h
  ·exact hg.2.1 r (by simpa using hr)
theorem createE_page {recs : List Rec} {id : Int} (hg : goodRecs recs) (ho : ∀ r ∈ recs, r.ok) : createE recs id = if ¬ idOk id then 1 else if (pendP recs).isSome = true then 18 else if 0 ≤ findP recs id then 10 else if 60 ≤ recs.length then 2 else 0 := by
 unfold createE
 by_cases h1 : idOk id
 ·simp only [if_neg (fun h : ¬ idOk id => h h1)]
  cases h2 : (pendP recs).isSome with
  | true => rfl
  | false =>
   have e := find_any (id := id) (pend_none hg ho h2)
   by_cases h3 : 0 ≤ findP recs id
   ·rw [decide_eq_true h3] at e
    rw [e, if_pos h3]; rfl
   ·rw [decide_eq_false h3] at e
    rw [e, if_neg h3]; rfl
 ·simp only [if_pos h1]
theorem lookQ_good {l : List UInt8} {x : Img} (hl : l.length < 1000000) (h : lookQ l = .ok x) : goodRecs x.recs := by
 obtain ⟨hd, _⟩ := lookQ_ok hl h
 unfold lookQ at h
 rw [if_pos hd.2] at h
 exact ((lookP_iff hd).1 h).good
attribute [local irreducible] aops aexec acall aiter aop W WO
theorem r_IdOk (k : Nat) (hk : 2 ≤ k) (id : Int) : FnV (CF k) n_ref01_Id [.int .i64 id] (.bool (decide (idOk id))) := by
 have := r_Id k hk id
 have e : inR id 1 4611686018427387903 = decide (idOk id) := by
  rw [Bool.eq_iff_iff, inR_iff, decide_eq_true_eq]; rfl
 rw [e] at this
 exact this
theorem r_Create (k : Nat) (hk : 1000600 ≤ k) (f : Bool) (l : List UInt8) (hl : l.length < 1000000) (id : Int) : FnV (CF k) n_ref18_Create [.islc false f 1 (BL l), .int .i64 id] (iosAv (createP l id)) := by
 have hop := r_Open (k - 1) (by omega) f l hl
 have hid := r_IdOk (k - 1) (by omega) id
 refine fnk (by omega) B_ref18_Create rfl ?_
 unfold ref18_Create createP
 cases h : lookQ l with
 | error p =>
  obtain ⟨a, e⟩ := p
  have he := lookQ_err h
  rw [h] at hop
  unfold ropenAv at hop
  unfold iosAv zero10 at *
  simp only at hop ⊢
  have he0 : (e : Int) ≠ 0 := by omega
  repeat' (first | refine q_callB (hop) (fun _ => ?_) (fun _ => ?_) | refine q_call (hop) ?_ | refine qQb ?_ | refine q_cmp2 (fun _ => ?_) (fun _ => ?_))
  exact ⟨Or.inr rfl, _, rfl, rfl⟩
 | ok x =>
  obtain ⟨hd, hx⟩ := lookQ_ok hl h
  have hg := lookQ_good hl h
  rw [h] at hop
  unfold ropenAv at hop
  simp only at hop ⊢
  have hce := createE_page (id := id) hg hx.recs
  have hno := fun h0 => newRec_ok (id := id) hd hx h0
  have hcn := fun h0 : createE x.recs id = 0 => r_chain (k - 1) (by omega) f l hd x hx 0 (newRec x id) true (Nat.zero_le _) (fun _ => hno h0)
  obtain ⟨ms, hms⟩ : ∃ ms, ms = makesP l x 0 (newRec x id) true := ⟨_, rfl⟩
  rw [← hms] at hcn ⊢
  have hfew := hx.few
  have hfd := fun g b r z fi slot => r_Find (k - 1) (by omega) x.recs g b r z fi slot id (by omega)
  have hpe := fun g b r z fi slot => r_pending (k - 1) (by omega) x.recs g b r z fi slot
  obtain ⟨pb, hpb⟩ : ∃ b, b = (pendP x.recs).isSome := ⟨_, rfl⟩
  rw [← hpb] at hce hpe
  obtain ⟨fd, hfd0⟩ : ∃ b, b = findP x.recs id := ⟨_, rfl⟩
  rw [← hfd0] at hce hfd
  obtain ⟨uf, us, ues, ue, hu⟩ := iosAv_tup ms
  rw [hu] at hcn
  clear hms hno hx hg hd
  have hnr : newRec x id = ⟨0, id.toNat, parentP x.recs, x.sup.root, x.sup.size, 0, 0, 0⟩ := rfl
  rw [hnr] at hcn
  unfold Rec.av at hcn
  simp only at hcn
  obtain ⟨⟨g, b, r, z, fi⟩, slot, recs, blocks, trees⟩ := x
  unfold Img.rcs at hop hcn
  simp only at hop hcn hce hfd hpe hfew ⊢
  have hrl : (recs.map Rec.av).length = recs.length := List.length_map _
  obtain ⟨ce, hce0⟩ : ∃ c, c = createE recs id := ⟨_, rfl⟩
  rw [← hce0] at hce hcn ⊢
  by_cases hi : idOk id
  rotate_left 1
  ·rw [if_pos hi] at hce
   rw [decide_eq_false hi] at hid
   subst hce
   rw [if_pos (by decide)]
   repeat' (first | refine qS ?_ | refine q_call hid ?_ | refine q_callB (hop) (fun _ => ?_) (fun _ => ?_) | refine q_call (hop) ?_ | refine qQb ?_ | refine q_cmp2 (fun _ => ?_) (fun _ => ?_))
   exact ⟨Or.inr rfl, _, rfl, rfl⟩
  rw [if_neg (fun h => h hi)] at hce
  rw [decide_eq_true hi] at hid
  cases pb with
  | true =>
   rw [if_pos rfl] at hce
   subst hce
   rw [if_pos (by decide)]
   repeat' (first | refine qS ?_ | refine q_call hid ?_ | refine q_call (hpe _ _ _ _ _ _) ?_ | refine q_callB (hop) (fun _ => ?_) (fun _ => ?_) | refine q_call (hop) ?_ | refine qQb ?_ | refine q_cmp2 (fun _ => ?_) (fun _ => ?_))
   exact ⟨Or.inr rfl, _, rfl, rfl⟩
  | false =>
   rw [if_neg (by decide)] at hce
   by_cases hf0 : 0 ≤ fd
   ·rw [if_pos hf0] at hce
    subst hce
    rw [if_pos (by decide)]
    repeat' (first
     | refine qS ?_ | refine q_call hid ?_ | refine q_call (hpe _ _ _ _ _ _) ?_ | refine q_call (hfd _ _ _ _ _ _) ?_ | refine q_callB (hop) (fun _ => ?_) (fun _ => ?_)
     | refine q_call (hop) ?_ | refine qQb ?_ | refine q_cmp2 (fun _ => ?_) (fun _ => ?_))
    exact ⟨Or.inr rfl, _, rfl, rfl⟩
   rw [if_neg hf0] at hce
   by_cases h60 : 60 ≤ recs.length
   ·rw [if_pos h60] at hce
    subst hce
    rw [if_pos (by decide)]
    repeat' (first
     | refine qS ?_ | refine q_call hid ?_ | refine q_call (hpe _ _ _ _ _ _) ?_ | refine q_call (hfd _ _ _ _ _ _) ?_ | refine wo_lenG (n := recs.length) rfl hrl rfl rfl ?_
     | refine q_callB (hop) (fun _ => ?_) (fun _ => ?_) | refine q_call (hop) ?_ | refine qQb ?_ | refine q_cmp2 (fun _ => ?_) (fun _ => ?_))
    exact ⟨Or.inr rfl, _, rfl, rfl⟩
   rw [if_neg h60] at hce
   have hcn2 := hcn hce
   clear hcn
   subst hce
   rw [if_neg (by decide), hu]
   have hidn : ((id.toNat : Nat) : Int) = id := by unfold idOk at hi; omega
   rw [hidn] at hcn2
   cases recs with
   | nil =>
    have hcn' : FnV (CF (k - 1)) n_ref18_chain [.islc false f 1 (BL l), .agg [.int .i64 g, .int .i64 b, .int .i64 r, .int .i64 z, .int .i64 fi, .int .i64 slot, .islc false false 8 [], .islc false false 1 (NL blocks), .islc false false 1 (trees.map mIv), .islc false false 1 (trees.map nIv)], .int .i64 0, .agg [.int .i64 0, .int .i64 id, .int .i64 0, .int .i64 r, .int .i64 z, .int .i64 0, .int .i64 0, .int .i64 0], .bool true] (.tup [.islc false uf us ues, .int .i64 ue]) := hcn2
    repeat' (first
     | refine qS ?_ | refine q_call hid ?_ | refine q_call (hpe _ _ _ _ _ _) ?_ | refine q_call (hfd _ _ _ _ _ _) ?_ | refine wo_lenG (n := 0) rfl rfl rfl rfl ?_
     | refine q_callB (hop) (fun _ => ?_) (fun _ => ?_) | refine q_call (hop) ?_ | refine q_callB (hcn') (fun _ => ?_) (fun _ => ?_) | refine q_call (hcn') ?_ | refine qQb ?_
     | refine q_cmp2 (fun _ => ?_) (fun _ => ?_))
    exact ⟨Or.inr rfl, _, rfl, rfl⟩
   | cons q rs =>
    obtain ⟨b1, b2, b3, b4, b5, b6, b7, b8⟩ := q
    have hln : ((⟨b1, b2, b3, b4, b5, b6, b7, b8⟩ :: rs : List Rec).map Rec.av).length = rs.length + 1 := by simp
    have he0 : ((⟨b1, b2, b3, b4, b5, b6, b7, b8⟩ :: rs : List Rec).map Rec.av)[(0 : Int).toNat]? = some (.agg [.int .i64 b1, .int .i64 b2, .int .i64 b3, .int .i64 b4, .int .i64 b5, .int .i64 b6, .int .i64 b7, .int .i64 b8]) := rfl
    have h60' : rs.length + 1 < 60 := by simp at h60; omega
    have hcn' : FnV (CF (k - 1)) n_ref18_chain [.islc false f 1 (BL l), .agg [.int .i64 g, .int .i64 b, .int .i64 r, .int .i64 z, .int .i64 fi, .int .i64 slot, .islc false false 8 ((⟨b1, b2, b3, b4, b5, b6, b7, b8⟩ :: rs : List Rec).map Rec.av), .islc false false 1 (NL blocks), .islc false false 1 (trees.map mIv), .islc false false 1 (trees.map nIv)], .int .i64 0, .agg [.int .i64 0, .int .i64 id, .int .i64 b2, .int .i64 r, .int .i64 z, .int .i64 0, .int .i64 0, .int .i64 0], .bool true] (.tup [.islc false uf us ues, .int .i64 ue]) := hcn2
    repeat' (first
     | refine qS ?_ | refine q_call hid ?_ | refine q_call (hpe _ _ _ _ _ _) ?_ | refine q_call (hfd _ _ _ _ _ _) ?_ | refine wo_lenG (n := rs.length + 1) rfl hln rfl rfl ?_
     | refine wo_atG rfl rfl (by omega) he0 rfl rfl ?_ | refine q_callB (hop) (fun _ => ?_) (fun _ => ?_) | refine q_call (hop) ?_ | refine q_callB (hcn') (fun _ => ?_) (fun _ => ?_)
     | refine q_call (hcn') ?_ | refine qQba ?_ | refine q_cmp2 (fun _ => ?_) (fun _ => ?_))
    exact ⟨Or.inr rfl, _, rfl, rfl⟩
theorem r_Delete (k : Nat) (hk : 1000600 ≤ k) (f : Bool) (l : List UInt8) (hl : l.length < 1000000) (id : Int) : FnV (CF k) n_ref18_Delete [.islc false f 1 (BL l), .int .i64 id] (iosAv (deleteP l id)) := by
 have hop := r_Open (k - 1) (by omega) f l hl
 have hid := r_IdOk (k - 1) (by omega) id
 refine fnk (by omega) B_ref18_Delete rfl ?_
 unfold ref18_Delete deleteP
 cases h : lookQ l with
 | error p =>
  obtain ⟨a, e⟩ := p
  have he := lookQ_err h
  rw [h] at hop
  unfold ropenAv at hop
  unfold iosAv zero10 at *
  simp only at hop ⊢
  have he0 : (e : Int) ≠ 0 := by omega
  repeat' (first | refine qS ?_ | refine qN ?_ | refine q_callB (hop) (fun _ => ?_) (fun _ => ?_) | refine q_call (hop) ?_ | refine qQb ?_ | refine q_cmp2 (fun _ => ?_) (fun _ => ?_))
  exact ⟨Or.inr rfl, _, rfl, rfl⟩
 | ok x =>
  obtain ⟨hd, hx⟩ := lookQ_ok hl h
  rw [h] at hop
  unfold ropenAv at hop
  simp only at hop ⊢
  have hfew := hx.few
  have hfr := fun h0 => findP_lt (recs := x.recs) (id := id) h0
  have hcn := fun h0 : ¬ findP x.recs id < 0 => r_chain (k - 1) (by omega) f l hd x hx ((findP x.recs id).toNat + 1) rec0 false (by have := hfr h0; omega) (fun h => by cases h)
  obtain ⟨ms, hms⟩ : ∃ ms, ms = makesP l x ((findP x.recs id).toNat + 1) rec0 false := ⟨_, rfl⟩
  rw [← hms] at hcn ⊢
  have hfd := fun g b r z fi slot => r_Find (k - 1) (by omega) x.recs g b r z fi slot id (by omega)
  have hpe := fun g b r z fi slot => r_pending (k - 1) (by omega) x.recs g b r z fi slot
  obtain ⟨uf, us, ues, ue, hu⟩ := iosAv_tup ms
  rw [hu] at hcn
  clear hms hx hd
  obtain ⟨⟨g, b, r, z, fi⟩, slot, recs, blocks, trees⟩ := x
  unfold Img.rcs at hop hcn
  simp only at hop hcn hfd hpe hfew hfr ⊢
  have hrl : (recs.map Rec.av).length = recs.length := List.length_map _
  obtain ⟨fd, hfd0⟩ : ∃ c, c = findP recs id := ⟨_, rfl⟩
  rw [← hfd0] at hfd hcn hfr ⊢
  by_cases hi : idOk id
  rotate_left 1
  ·rw [if_pos hi]
   rw [decide_eq_false hi] at hid
   repeat' (first | refine qS ?_ | refine qN ?_ | refine q_call hid ?_ | refine q_callB (hop) (fun _ => ?_) (fun _ => ?_) | refine q_call (hop) ?_ | refine qQb ?_ | refine q_cmp2 (fun _ => ?_) (fun _ => ?_))
   exact ⟨Or.inr rfl, _, rfl, rfl⟩
  rw [if_neg (fun h => h hi)]
  rw [decide_eq_true hi] at hid
  by_cases hf0 : fd < 0
  ·rw [if_pos hf0]
   repeat' (first
    | refine qS ?_ | refine qN ?_ | refine q_call hid ?_ | refine q_call (hfd _ _ _ _ _ _) ?_ | refine q_callB (hop) (fun _ => ?_) (fun _ => ?_) | refine q_call (hop) ?_ | refine qQb ?_
    | refine q_cmp2 (fun _ => ?_) (fun _ => ?_))
   exact ⟨Or.inr rfl, _, rfl, rfl⟩
  rw [if_neg hf0]
  have hcn2 := hcn hf0
  have hfr := hfr hf0
  clear hcn
  have hfi : (((fd.toNat + 1 : Nat)) : Int) = fd + 1 := by omega
  rw [hfi] at hcn2
  unfold rec0 Rec.av at hcn2
  simp only at hcn2
  cases recs with
  | nil => simp at hfr; omega
  | cons q rs =>
   obtain ⟨b1, b2, b3, b4, b5, b6, b7, b8⟩ := q
   have he0 : ((⟨b1, b2, b3, b4, b5, b6, b7, b8⟩ :: rs : List Rec).map Rec.av)[(0 : Int).toNat]? = some (.agg [.int .i64 b1, .int .i64 b2, .int .i64 b3, .int .i64 b4, .int .i64 b5, .int .i64 b6, .int .i64 b7, .int .i64 b8]) := rfl
   have hfl : fd + 1 < 1000 := by omega
   by_cases hk1 : b6 = 1
   ·have hpd : pendP (⟨b1, b2, b3, b4, b5, b6, b7, b8⟩ :: rs : List Rec) = some ⟨b1, b2, b3, b4, b5, b6, b7, b8⟩ := by simp only [pendP]; rw [if_pos hk1]
    rw [hpd] at hpe
    simp only [hpd]
    by_cases hpi : (b3 : Int) = id
    ·rw [decide_eq_true hpi, if_pos rfl]
     repeat' (first
      | refine qS ?_ | refine qN ?_ | refine q_call hid ?_ | refine q_call (hfd _ _ _ _ _ _) ?_ | refine q_call (hpe _ _ _ _ _ _) ?_ | refine wo_atG rfl rfl (by omega) he0 rfl rfl ?_
      | refine q_callB (hop) (fun _ => ?_) (fun _ => ?_) | refine q_call (hop) ?_ | refine qQba ?_ | refine q_cmp2 (fun _ => ?_) (fun _ => ?_))
     exact ⟨Or.inr rfl, _, rfl, rfl⟩
    ·rw [decide_eq_false hpi, if_neg (by decide), hu]
     repeat' (first
      | refine qS ?_ | refine qN ?_ | refine q_call hid ?_ | refine q_call (hfd _ _ _ _ _ _) ?_ | refine q_call (hpe _ _ _ _ _ _) ?_ | refine wo_atG rfl rfl (by omega) he0 rfl rfl ?_
      | refine q_callB (hop) (fun _ => ?_) (fun _ => ?_) | refine q_call (hop) ?_ | refine q_callB (hcn2) (fun _ => ?_) (fun _ => ?_) | refine q_call (hcn2) ?_ | refine qQba ?_
      | refine q_cmp2 (fun _ => ?_) (fun _ => ?_))
     exact ⟨Or.inr rfl, _, rfl, rfl⟩
   ·have hpd : pendP (⟨b1, b2, b3, b4, b5, b6, b7, b8⟩ :: rs : List Rec) = none := by simp only [pendP]; rw [if_neg hk1]
    rw [hpd] at hpe
    simp only [hpd]
    rw [if_neg (by decide), hu]
    repeat' (first
     | refine qS ?_ | refine qN ?_ | refine q_call hid ?_ | refine q_call (hfd _ _ _ _ _ _) ?_ | refine q_call (hpe _ _ _ _ _ _) ?_ | refine q_callB (hop) (fun _ => ?_) (fun _ => ?_)
     | refine q_call (hop) ?_ | refine q_callB (hcn2) (fun _ => ?_) (fun _ => ?_) | refine q_call (hcn2) ?_ | refine qQba ?_ | refine q_cmp2 (fun _ => ?_) (fun _ => ?_))
    exact ⟨Or.inr rfl, _, rfl, rfl⟩
def rrollAv : Except Nat (List IoV × Nat) → AV
 | .ok (ios, e) => if e = 0 then .tup [.islc false false 3 (ios.map IoV.av), .int .i64 0] else .tup [.islc false true 0 [], .int .i64 e]
 | .error e => .tup [.islc false true 0 [], .int .i64 e]
theorem r_Rollback (k : Nat) (hk : 1000600 ≤ k) (f : Bool) (l : List UInt8) (hl : l.length < 1000000) (id : Int) : FnV (CF k) n_ref18_Rollback [.islc false f 1 (BL l), .int .i64 id] (rrollAv (rollP l id)) := by
 have hop := r_Open (k - 1) (by omega) f l hl
 have hid := r_IdOk (k - 1) (by omega) id
 refine fnk (by omega) B_ref18_Rollback rfl ?_
 unfold ref18_Rollback rollP
 cases h : lookQ l with
 | error p =>
  obtain ⟨a, e⟩ := p
  have he := lookQ_err h
  rw [h] at hop
  unfold ropenAv at hop
  unfold rrollAv zero10 at *
  simp only at hop ⊢
  have he0 : (e : Int) ≠ 0 := by omega
  repeat' (first | refine q_callB (hop) (fun _ => ?_) (fun _ => ?_) | refine q_call (hop) ?_ | refine qQb ?_ | refine q_cmp2 (fun _ => ?_) (fun _ => ?_))
  exact ⟨Or.inr rfl, _, rfl, rfl⟩
 | ok x =>
  obtain ⟨hd, hx⟩ := lookQ_ok hl h
  rw [h] at hop
  unfold ropenAv at hop
  simp only at hop ⊢
  have hfew := hx.few
  have hfr := fun h0 => findP_lt (recs := x.recs) (id := id) h0
  have hfd := fun g b r z fi slot => r_Find (k - 1) (by omega) x.recs g b r z fi slot id (by omega)
  have hsok := hx.sup
  have hgl : x.sup.gen ≤ 1099511627776 := hsok.1.2
  have hfirst : x.sup.first < 4611686018427387904 := by have := hsok.2.1; have := hsok.2.2.2.2; omega
  have hbl : x.sup.blocks < 4611686018427387904 := by have := hsok.2.1; omega
  have hct := fun root size (h1 : root < 4611686018427387904) (h2 : size < 4611686018427387904) => r_Commit (k - 1) (by omega) x.sup x.slot x.recs [] false true 0 root size x.sup.first hx.slot (.inr rfl) (by decide) (fun y hy => by cases hy) ⟨by omega, hbl, h1, h2, hfirst⟩
  have hro := hx.recs
  clear hx hd hsok
  obtain ⟨⟨g, b, r, z, fi⟩, slot, recs, blocks, trees⟩ := x
  unfold Img.rcs at hop
  simp only at hop hfd hfew hfr hct hgl hro ⊢
  obtain ⟨fd, hfd0⟩ : ∃ c, c = findP recs id := ⟨_, rfl⟩
  rw [← hfd0] at hfd hfr ⊢
  by_cases hi : idOk id
  rotate_left 1
  ·rw [if_pos hi]
   rw [decide_eq_false hi] at hid
   repeat' (first | refine qS ?_ | refine q_call hid ?_ | refine q_callB (hop) (fun _ => ?_) (fun _ => ?_) | refine q_call (hop) ?_ | refine qQb ?_ | refine q_cmp2 (fun _ => ?_) (fun _ => ?_))
   exact ⟨Or.inr rfl, _, rfl, rfl⟩
  rw [if_neg (fun h => h hi)]
  rw [decide_eq_true hi] at hid
  by_cases hf0 : fd < 0
  ·rw [if_pos hf0]
   repeat' (first | refine qS ?_ | refine q_call hid ?_ | refine q_call (hfd _ _ _ _ _ _) ?_ | refine q_callB (hop) (fun _ => ?_) (fun _ => ?_) | refine q_call (hop) ?_ | refine qQb ?_ | refine q_cmp2 (fun _ => ?_) (fun _ => ?_))
   exact ⟨Or.inr rfl, _, rfl, rfl⟩
  rw [if_neg hf0]
  have hfr := hfr hf0
  by_cases hg : g < 1099511627776
  rotate_left 1
  ·rw [if_neg hg]
   repeat' (first | refine qS ?_ | refine q_call hid ?_ | refine q_call (hfd _ _ _ _ _ _) ?_ | refine q_callB (hop) (fun _ => ?_) (fun _ => ?_) | refine q_call (hop) ?_ | refine qQb ?_ | refine q_cmp2 (fun _ => ?_) (fun _ => ?_))
   exact ⟨Or.inr rfl, _, rfl, rfl⟩
  rw [if_pos hg]
  have hlt : fd.toNat < recs.length := by omega
  obtain ⟨⟨b1, b2, b3, b4, b5, b6, b7, b8⟩, hr⟩ : ∃ r, r = recs[fd.toNat] := ⟨_, rfl⟩
  have hgd : recs.getD fd.toNat default = ⟨b1, b2, b3, b4, b5, b6, b7, b8⟩ := by rw [hr]; simp [hlt]
  have he2 : (recs.map Rec.av)[fd.toNat]? = some (.agg [.int .i64 b1, .int .i64 b2, .int .i64 b3, .int .i64 b4, .int .i64 b5, .int .i64 b6, .int .i64 b7, .int .i64 b8]) := by
   rw [List.getElem?_map, List.getElem?_eq_getElem hlt, ← hr]; rfl
  have hrok := hro recs[fd.toNat] (List.getElem_mem hlt)
  rw [← hr] at hrok
  have hlt2 := ok_lt hrok
  unfold Rec.lt at hlt2
  simp only at hlt2
  rw [hgd]
  simp only
  have hct2 := hct b4 b5 (by omega) (by omega)
  repeat' (first
   | refine qS ?_ | refine q_call hid ?_ | refine q_call (hfd _ _ _ _ _ _) ?_ | refine wo_atG rfl rfl (by omega) he2 rfl rfl ?_ | refine q_callB (hop) (fun _ => ?_) (fun _ => ?_)
   | refine q_call (hop) ?_ | refine q_callB (hct2) (fun _ => ?_) (fun _ => ?_) | refine q_call (hct2) ?_ | refine qQba ?_ | refine q_cmp2 (fun _ => ?_) (fun _ => ?_))
  exact ⟨Or.inr rfl, _, rfl, rfl⟩
theorem r_List (k : Nat) (hk : 1000600 ≤ k) (f : Bool) (l : List UInt8) (hl : l.length < 1000000) : FnV (CF k) n_ref18_List [.islc false f 1 (BL l)] (listAv (lookQ l)) := by
 have hop := r_Open (k - 1) (by omega) f l hl
 refine fnk (by omega) B_ref18_List rfl ?_
 unfold ref18_List
 cases h : lookQ l with
 | error p =>
  obtain ⟨a, e⟩ := p
  have he := lookQ_err h
  rw [h] at hop
  unfold ropenAv at hop
  unfold listAv zero10 at *
  simp only at hop ⊢
  have he0 : (e : Int) ≠ 0 := by omega
  repeat' (first | refine qS ?_ | refine q_nilrow ?_ (hl := by kernel_rfl) | refine q_callB (hop) (fun _ => ?_) (fun _ => ?_) | refine q_call (hop) ?_ | refine qQb ?_ | refine q_cmp2 (fun _ => ?_) (fun _ => ?_) | refine q_app fun _ => ?_)
  exact ⟨Or.inr rfl, _, rfl, rfl⟩
 | ok x =>
  obtain ⟨hd, hx⟩ := lookQ_ok hl h
  have hfew := hx.few
  rw [h] at hop
  unfold ropenAv at hop
  unfold listAv
  simp only at hop ⊢
  clear hx hd
  obtain ⟨⟨g, b, r, z, fi⟩, slot, recs, blocks, trees⟩ := x
  unfold Img.rcs at hop
  simp only at hop hfew ⊢
  have hrl : (recs.map Rec.av).length = recs.length := List.length_map _
  repeat' (first | refine q_callB (hop) (fun _ => ?_) (fun _ => ?_) | refine q_call (hop) ?_ | refine qQb ?_ | refine q_cmp2 (fun _ => ?_) (fun _ => ?_) | refine q_app fun _ => ?_)
  refine w_cut [(4, .ptr 1 1 1 10 0 0), (6, .slc 4 1 0 1 0 0 none), (7, .int .i64 0)] [(1, ⟨1, false, .row 10 [.agg [.int .i64 g, .int .i64 b, .int .i64 r, .int .i64 z, .int .i64 fi, .int .i64 slot, .islc false false 8 (recs.map Rec.av), .islc false false 1 (NL blocks), .islc false false 1 (trees.map mIv), .islc false false 1 (trees.map nIv)]]⟩), (4, ⟨1, false, .row 1 []⟩)] ⟨by kernel_rfl, by kernel_rfl, by kernel_rfl, trivial⟩ ⟨by kernel_rfl, by kernel_rfl, trivial⟩ (fun T H hT hH => ?_)
  obtain ⟨h1, h4, -⟩ := hH
  simp only [over]
  clear hT
  refine W.mono (Q := fun ex T' H' => ex = .exit 0 ∧ H' 4 = ⟨1, false, .row 1 (NL (idsP recs))⟩ ∧ T' 6 = .slc 4 1 (idsP recs).length 1 0 (idsP recs).length none) ?_ ?_
  ·refine w_for recs.length (fun i T' H' => H' 1 = H 1 ∧ H' 4 = ⟨1, false, .row 1 (NL (idsP (recs.take i)))⟩ ∧ Has T' [(4, .ptr 1 1 1 10 0 0), (6, .slc 4 1 (idsP (recs.take i)).length 1 0 (idsP (recs.take i)).length none), (7, .int .i64 (i : Nat))]) ⟨rfl, h4, rfl, rfl, rfl, trivial⟩ (by omega) ?_
   rintro i T2 H2 hi ⟨g1, g4, hT⟩
   rw [h1] at g1
   rw [hT.eq]
   simp only [over]
   by_cases hil : i < recs.length
   ·obtain ⟨⟨b1, b2, b3, b4, b5, b6, b7, b8⟩, hr⟩ : ∃ r, r = recs[i] := ⟨_, rfl⟩
    have he2 : (recs.map Rec.av)[(i : Int).toNat]? = some (.agg [.int .i64 b1, .int .i64 b2, .int .i64 b3, .int .i64 b4, .int .i64 b5, .int .i64 b6, .int .i64 b7, .int .i64 b8]) := by
     rw [Int.toNat_natCast, List.getElem?_map, List.getElem?_eq_getElem hil, ← hr]; rfl
    have hql := idsP_len (recs.take i)
    rw [List.length_take] at hql
    have hst : idsP (recs.take (i + 1)) = idsP (recs.take i) ++ (if b6 = 0 then [b2] else []) := by
     unfold idsP
     rw [List.take_succ_eq_append_getElem hil, ← hr, List.filter_append, List.map_append]
     congr 1
     simp only [List.filter_cons, List.filter_nil, wholeR, decide_eq_true_eq]
     by_cases h : b6 = 0
     ·rw [if_pos h, if_pos h]; rfl
     ·rw [if_neg h, if_neg h]; rfl
    obtain ⟨q, hq⟩ : ∃ q, q = idsP (recs.take i) := ⟨_, rfl⟩
    rw [← hq] at g4 hql hst ⊢
    by_cases h0 : b6 = 0
    ·rw [if_pos h0] at hst
     have h0' : (b6 : Int) = 0 := by omega
     repeat' (first
      | refine qS ?_ | refine q_loadR ?_ (hr := by exact g1) | refine wo_lenG (n := recs.length) rfl hrl rfl rfl ?_ | refine wo_atG rfl rfl (by omega) he2 rfl rfl ?_
      | refine wo_app1 rfl rfl rfl (by exact g4) (NL_len q) rfl (by omega) rfl rfl (fun _ => ?_) | refine qQba ?_ | refine q_cmp2 (fun _ => ?_) (fun _ => ?_) | refine q_app fun _ => ?_)
     refine ⟨hil, by rw [h1]; exact g1, ?_, rfl, ?_, by show AV.int _ _ = AV.int _ _; congr 1, trivial⟩
     ·rw [hst, NL_snoc]; rfl
     ·rw [hst, List.length_append]; rfl
    ·rw [if_neg h0, List.append_nil] at hst
     have h0' : (b6 : Int) ≠ 0 := by omega
     repeat' (first
      | refine qS ?_ | refine q_loadR ?_ (hr := by exact g1) | refine wo_lenG (n := recs.length) rfl hrl rfl rfl ?_ | refine wo_atG rfl rfl (by omega) he2 rfl rfl ?_ | refine qQba ?_
      | refine q_cmp2 (fun _ => ?_) (fun _ => ?_) | refine q_app fun _ => ?_)
     exact ⟨hil, by rw [h1]; exact g1, by rw [hst]; exact g4, rfl, by rw [hst]; rfl, by show AV.int _ _ = AV.int _ _; congr 1, trivial⟩
   ·have hin : i = recs.length := by omega
    subst hin
    rw [List.take_length] at g4 ⊢
    repeat' (first | refine qS ?_ | refine q_loadR ?_ (hr := by exact g1) | refine wo_lenG (n := recs.length) rfl hrl rfl rfl ?_ | refine qQba ?_ | refine q_cmp2 (fun _ => ?_) (fun _ => ?_) | refine q_app fun _ => ?_)
    exact ⟨rfl, g4, rfl⟩
  rintro ex T2 H2 ⟨rfl, g4, h6⟩
  rw [Has.eq (T := T2) (ps := [(6, _)]) ⟨h6, trivial⟩]
  simp only [over]
  show W _ _
  repeat' (first | refine qQb ?_ | refine q_cmp2 (fun _ => ?_) (fun _ => ?_) | refine q_app fun _ => ?_)
  refine ⟨Or.inr rfl, .tup [.slc 4 1 (idsP recs).length 1 0 (idsP recs).length none, .int .i64 0], rfl, ?_⟩
  show AV.tup [fz true (3 + 2) H2 (.slc 4 1 (idsP recs).length 1 0 (idsP recs).length none), _] = _
  rw [fz_ownN g4 rfl 3]; rfl
end Go.Proofs.YtkaiiopoilpjeaaGreat
