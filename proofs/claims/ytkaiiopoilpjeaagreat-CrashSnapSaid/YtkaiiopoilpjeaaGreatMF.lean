/- Lemmas. -/
import Derived.Test.YtkaiiopoilpjeaaGreatMM
import Derived.Test.YtkaiiopoilpjeaaGreatMD1
import Derived.Test.YtkaiiopoilpjeaaGreatME2
import Derived.Test.YtkaiiopoilpjeaaGreatMN
set_option linter.unusedSimpArgs false
set_option linter.unusedVariables false
set_option maxRecDepth 10000
namespace Go.Proofs.YtkaiiopoilpjeaaGreat
open Go.AI
def flushG : List IoV → Nat → List Nat
 | [], _ => []
 | x :: r, i => (if x.kind = 2 then [i] else []) ++ flushG r (i + 1)
def flushesP (l : List IoV) : List Nat := flushG l 0
theorem flushG_append : ∀ (a b : List IoV) (i : Nat), flushG (a ++ b) i = flushG a i ++ flushG b (i + a.length)
 | [], b, i => by simp [flushG]
 | x :: a, b, i => by
  have h := flushG_append a b (i + 1)
  simp only [List.cons_append, flushG, List.length_cons, h, List.append_assoc]
  rw [show i + 1 + a.length = i + (a.length + 1) by omega]
theorem flushG_range : ∀ (l : List IoV) (i : Nat), (∀ a ∈ flushG l i, i ≤ a ∧ a < i + l.length) ∧ (flushG l i).Pairwise (· < ·)
 | [], i => ⟨fun a h => (by cases h), List.Pairwise.nil⟩
 | x :: r, i => by
  obtain ⟨h1, h2⟩ := flushG_range r (i + 1)
  unfold flushG
  refine ⟨fun a h => ?_, ?_⟩
  ·rcases List.mem_append.1 h with h | h
   ·split at h
    ·rw [List.mem_singleton] at h; subst h; simp
    ·cases h
   ·have := h1 a h; simp only [List.length_cons]; omega
  ·split
   ·rw [List.singleton_append, List.pairwise_cons]
    exact ⟨fun a h => by have := h1 a h; omega, h2⟩
   ·exact h2
theorem flushes_succ {l : List IoV} {i : Nat} (h : i < l.length) : flushesP (l.take (i + 1)) = flushesP (l.take i) ++ (if l[i].kind = 2 then [i] else []) := by
 unfold flushesP
 rw [List.take_succ_eq_append_getElem h, flushG_append]
 congr 1
 have e : (l.take i).length = i := by rw [List.length_take]; omega
 rw [e, Nat.zero_add]
 unfold flushG
 simp [flushG]
theorem flushes_len (l : List IoV) : (flushesP l).length ≤ l.length := by
 have h : ∀ (l : List IoV) (i : Nat), (flushG l i).length ≤ l.length := by
  intro l
  induction l with
  | nil => intro i; simp [flushG]
  | cons x r ih =>
   intro i
   unfold flushG
   have := ih (i + 1)
   rw [List.length_append, List.length_cons]
   split <;> simp <;> omega
 exact h l 0
def lastF (l : List IoV) : Nat := (flushesP l).getD ((flushesP l).length - 1) 0
def crashSel (safe : Nat) (keep : List Bool) : List IoV → Nat → Nat → List IoV
 | [], _, _ => []
 | x :: r, i, o => if x.kind ≠ 1 then crashSel safe keep r (i + 1) o else if i < safe then x :: crashSel safe keep r (i + 1) o
  else if keep.getD o false = true then x :: crashSel safe keep r (i + 1) (o + 1) else crashSel safe keep r (i + 1) (o + 1)
def crashF (safe : Nat) (keep : List Bool) : List IoV → Nat → Nat → List UInt8 → List UInt8
 | [], _, _, m => m
 | x :: r, i, o, m => if x.kind ≠ 1 then crashF safe keep r (i + 1) o m else if i < safe then crashF safe keep r (i + 1) o (wr m x.at0 x.data)
  else if keep.getD o false = true then crashF safe keep r (i + 1) (o + 1) (wr m x.at0 x.data) else crashF safe keep r (i + 1) (o + 1) m
theorem crashF_eq {safe : Nat} {keep : List Bool} : ∀ (l : List IoV) (i o : Nat) (m : List UInt8), crashF safe keep l i o m = applyP m (crashSel safe keep l i o)
 | [], _, _, m => rfl
 | x :: r, i, o, m => by
  unfold crashF crashSel
  by_cases hk : x.kind = 1
  ·have hk2 : ¬ (x.kind ≠ 1) := fun h => h hk
   rw [if_neg hk2, if_neg hk2]
   have e : ∀ s, applyP m (x :: s) = applyP (wr m x.at0 x.data) s := fun s => by
    show applyP (if x.kind = 1 then wr m x.at0 x.data else m) s = _
    rw [if_pos hk]
   by_cases h1 : i < safe
   ·rw [if_pos h1, if_pos h1, e, crashF_eq r]
   ·rw [if_neg h1, if_neg h1]
    by_cases h2 : keep.getD o false = true
    ·rw [if_pos h2, if_pos h2, e, crashF_eq r]
    ·rw [if_neg h2, if_neg h2, crashF_eq r]
  ·rw [if_pos hk, if_pos hk, crashF_eq r]
def crashP (l : List UInt8) (ios : List IoV) (cut : Nat) (keep : List Bool) : List UInt8 := crashF (lastF (ios.take cut)) keep (ios.take cut) 0 0 l
theorem crashSel_mem {safe : Nat} {keep : List Bool} : ∀ (l : List IoV) (i o : Nat), ∀ x ∈ crashSel safe keep l i o, x ∈ l ∧ x.kind = 1
 | [], _, _, x, h => by cases h
 | y :: r, i, o, x, h => by
  unfold crashSel at h
  split at h
  ·have := crashSel_mem r _ _ x h; exact ⟨by simp [this.1], this.2⟩
  ·rename_i hk
   have hk := Classical.not_not.1 hk
   split at h
   ·rcases List.mem_cons.1 h with rfl | h
    ·exact ⟨by simp, hk⟩
    ·have := crashSel_mem r _ _ x h; exact ⟨by simp [this.1], this.2⟩
   ·split at h
    ·rcases List.mem_cons.1 h with rfl | h
     ·exact ⟨by simp, hk⟩
     ·have := crashSel_mem r _ _ x h; exact ⟨by simp [this.1], this.2⟩
    ·have := crashSel_mem r _ _ x h; exact ⟨by simp [this.1], this.2⟩
theorem crashP_eq (l : List UInt8) (ios : List IoV) (cut : Nat) (keep : List Bool) : crashP l ios cut keep = applyP l (crashSel (lastF (ios.take cut)) keep (ios.take cut) 0 0) := crashF_eq _ _ _ _
theorem crashP_len {l : List UInt8} {ios : List IoV} {cut : Nat} {keep : List Bool} (h : ∀ x ∈ ios, ioFit (nb l) x) : (crashP l ios cut keep).length = l.length := by
 rw [crashP_eq]
 exact applyP_len _ _ fun x hx => h x (List.mem_of_mem_take (crashSel_mem _ _ _ x hx).1)
end Go.Proofs.YtkaiiopoilpjeaaGreat
set_option linter.unusedSimpArgs false
set_option linter.unusedVariables false
set_option maxRecDepth 10000
set_option maxHeartbeats 16000000
namespace Go.Proofs.YtkaiiopoilpjeaaGreat
open Go.AI
attribute [local irreducible] aops aexec acall aiter aop W WO
theorem flushes_loop {k : Nat} {t f : Bool} {s : Nat} {ios : List IoV} {T : Tmps} {H : Heap} (hk : 1000000 ≤ k) (hs : s = 3 ∨ ios = []) (hl : ios.length < 100000) (h1 : H 1 = ⟨1, false, .row 1 []⟩)
  (hT : Has T [(3, .slc 1 1 0 1 0 0 none), (6, .islc t f s (ios.map IoV.av)), (7, .int .i64 ios.length), (8, .int .i64 0)]) :
  W (aexec (CF k) noX 0 k (.loop dev_Flushes_l0) T H) (fun ex T' H' => ex = .exit 0 ∧ H' 1 = ⟨1, false, .row 1 (NL (flushesP ios))⟩ ∧ T' 3 = .slc 1 1 (flushesP ios).length 1 0 (flushesP ios).length none) := by
 refine w_for ios.length (fun i T' H' => H' 1 = ⟨1, false, .row 1 (NL (flushesP (ios.take i)))⟩ ∧ Has T' [(3, .slc 1 1 (flushesP (ios.take i)).length 1 0 (flushesP (ios.take i)).length none), (6, .islc t f s (ios.map IoV.av)), (7, .int .i64 ios.length), (8, .int .i64 (i : Nat))]) ⟨h1, hT⟩ (by omega) ?_
 rintro i T H hi ⟨g1, hT⟩
 rw [hT.eq]
 simp only [over]
 unfold dev_Flushes_l0
 by_cases hlt : i < ios.length
 ·obtain rfl : s = 3 := hs.resolve_right (fun h => by rw [h] at hlt; simp at hlt)
  have hst := flushes_succ hlt
  obtain ⟨⟨kd, a, d, dt, df, ds⟩, hx⟩ : ∃ x, x = ios[i] := ⟨_, rfl⟩
  rw [← hx] at hst
  have he2 : (ios.map IoV.av)[(i : Int).toNat]? = some (.agg [.int .i64 kd, .int .i64 a, .islc dt df ds (BL d)]) := by
   rw [Int.toNat_natCast, List.getElem?_map, List.getElem?_eq_getElem hlt, ← hx]; rfl
  rw [hst]
  have hfl : (flushesP (ios.take i)).length ≤ i := Nat.le_trans (flushes_len _) (by rw [List.length_take]; omega)
  generalize flushesP (ios.take i) = F at *
  have hfn : (NL F).length = F.length := NL_len F
  simp only
  by_cases h2 : kd = 2
  ·have h2' : (kd : Int) = 2 := by omega
   rw [if_pos h2]
   repeat' (first
    | refine qS ?_ | refine wo_atG rfl rfl (by omega) he2 rfl rfl ?_ | refine wo_appI rfl rfl rfl (by exact g1) hfn rfl (by omega) rfl rfl (fun _ => ?_) | refine qQba ?_
    | refine q_cmp2 (fun _ => ?_) (fun _ => ?_) | refine q_app fun _ => ?_)
   refine ⟨hlt, ?_, ?_, rfl, rfl, by show AV.int _ _ = AV.int _ _; congr 1, trivial⟩
   ·rw [NL_snoc]; rfl
   ·rw [List.length_append]; rfl
  ·have h2' : (kd : Int) ≠ 2 := by omega
   rw [if_neg h2, List.append_nil]
   repeat' (first | refine qS ?_ | refine wo_atG rfl rfl (by omega) he2 rfl rfl ?_ | refine qQba ?_ | refine q_cmp2 (fun _ => ?_) (fun _ => ?_) | refine q_app fun _ => ?_)
   exact ⟨hlt, g1, rfl, rfl, rfl, by show AV.int _ _ = AV.int _ _; congr 1, trivial⟩
 ·have hin : i = ios.length := by omega
  subst hin
  rw [List.take_length] at g1 ⊢
  repeat' (first | refine qQb ?_ | refine q_cmp2 (fun _ => ?_) (fun _ => ?_) | refine q_app fun _ => ?_)
  exact ⟨rfl, g1, rfl⟩
theorem c_Flushes (k : Nat) (hk : 1000001 ≤ k) (t f : Bool) (s : Nat) (ios : List IoV) (hs : s = 3 ∨ ios = []) (hl : ios.length < 100000) : FnV (CF k) n_dev_Flushes [.islc t f s (ios.map IoV.av)] (.islc false false 1 (NL (flushesP ios))) := by
 have hml : (ios.map IoV.av).length = ios.length := List.length_map _
 refine fnk (by omega) B_dev_Flushes rfl ?_
 unfold dev_Flushes
 repeat' (first | refine qS ?_ | refine wo_lenG (n := ios.length) rfl hml rfl rfl ?_ | refine qQb ?_ | refine q_cmp2 (fun _ => ?_) (fun _ => ?_) | refine q_app fun _ => ?_)
 refine W.mono (flushes_loop (k := k - 1) (t := t) (f := f) (s := s) (ios := ios) (by omega) hs hl rfl ⟨rfl, rfl, rfl, rfl, trivial⟩) ?_
 rintro ex T2 H2 ⟨rfl, g1, h3⟩
 rw [Has.eq (T := T2) (ps := [(3, _)]) ⟨h3, trivial⟩]
 simp only [over]
 show W _ _
 repeat' (first | refine qQb ?_ | refine q_cmp2 (fun _ => ?_) (fun _ => ?_) | refine q_app fun _ => ?_)
 refine ⟨Or.inr rfl, _, rfl, ?_⟩
 show fz true (4 + 2) H2 (AV.slc _ _ _ _ _ _ _) = _
 exact fz_ownN g1 rfl 4
theorem crash_loop {k : Nat} {l : List UInt8} {ios : List IoV} {keep : List Bool} {safe : Nat} {sf : Int} {t' f' t3 f3 : Bool} {s' s3 v : Nat} {T : Tmps} {H : Heap} (hk : 1000000 ≤ k) (hv : l.length = v) (hl : v < 1000000) (hil : ios.length < 100000) (hs : s' = 3 ∨ ios = []) (hok : ∀ x ∈ ios, rightP (nb l) x ∧ (x.s = 1 ∨ x.data = []))
  (hs3 : s3 = 1 ∨ keep = []) (hkl : keep.length < 100000) (hsf : ∀ i : Nat, (i : Int) < sf ↔ i < safe)
  (h0 : H 0 = ⟨1, false, .row 1 (BL l)⟩)
  (hT : Has T [(3, .islc t3 f3 s3 (keep.map AV.bool)), (11, .int .i64 sf), (13, .slc 0 1 v 1 0 v none), (14, .int .i64 0), (51, .islc t' f' s' (ios.map IoV.av)), (52, .int .i64 ios.length), (53, .int .i64 0)]) :
  W (aexec (CF k) noX 0 k (.loop dev_Crash_l0) T H) (fun ex T' H' => ex = .exit 1 ∧ H' 0 = ⟨1, false, .row 1 (BL (crashF safe keep ios 0 0 l))⟩ ∧ T' 13 = .slc 0 1 v 1 0 v none) := by
 generalize hG : crashF safe keep ios 0 0 l = tot
 refine w_for ios.length (fun i T' H' => ∃ m o, tot = crashF safe keep (ios.drop i) i o m ∧ m.length = v ∧ o ≤ i ∧ H' 0 = ⟨1, false, .row 1 (BL m)⟩ ∧
   Has T' [(3, .islc t3 f3 s3 (keep.map AV.bool)), (11, .int .i64 sf), (13, .slc 0 1 v 1 0 v none), (14, .int .i64 (o : Nat)), (51, .islc t' f' s' (ios.map IoV.av)), (52, .int .i64 ios.length), (53, .int .i64 (i : Nat))]) ⟨l, 0, hG.symm, hv, Nat.le_refl _, h0, hT⟩ (by omega) ?_
 rintro i T H hi ⟨m, o, hgo, hm, hoi, g0, hT⟩
 rw [hT.eq]
 simp only [over]
 unfold dev_Crash_l0
 by_cases hlt : i < ios.length
 ·obtain rfl : s' = 3 := hs.resolve_right (fun h => by rw [h] at hlt; simp at hlt)
  rw [List.drop_eq_getElem_cons hlt] at hgo
  obtain ⟨⟨kd, a, d, t, f, s⟩, hx⟩ : ∃ x, x = ios[i] := ⟨_, rfl⟩
  have hxo := hok ios[i] (List.getElem_mem hlt)
  rw [← hx] at hxo hgo
  have he2 : (ios.map IoV.av)[(i : Int).toNat]? = some (.agg [.int .i64 kd, .int .i64 a, .islc t f s (BL d)]) := by
   rw [Int.toNat_natCast, List.getElem?_map, List.getElem?_eq_getElem hlt, ← hx]; rfl
  obtain ⟨hr, hsd⟩ := hxo
  unfold crashF at hgo
  simp only at hsd hgo
  have hkm : (keep.map AV.bool).length = keep.length := List.length_map _
  by_cases hkd : kd = 1
  ·have hkd' : (kd : Int) = 1 := by omega
   rw [if_neg (fun h => h hkd)] at hgo
   have hra : a < nb l ∧ d.length = 64 := by
    rcases hr with h | h
    ·exact ⟨h.2.1, h.2.2⟩
    ·have := h.1; simp only at this; omega
   have hle : 64 * (a + 1) ≤ v := by have := hra.1; unfold nb at this; omega
   have hsd1 : s = 1 := hsd.resolve_right (fun h => by have := hra.2; rw [h] at this; simp at this)
   subst hsd1
   have hwl : (wr m a d).length = v := by rw [wr_len (by rw [hm]; exact hle) hra.2]; exact hm
   have hof : ∀ H : Heap, H 0 = ⟨1, false, .row 1 (BL m)⟩ → CF k n_dev_Of (0 + 2) (.slc 0 1 v 1 0 v none :: [.int .i64 a]) (peekH H 0 1 (BL m)) = some (.slc 0 1 v 1 (64 * a) 64 none, peekH H 0 1 (BL m)) := fun H h => c_dev_OfO k (by omega) m a 0 1 v 2 hm hl hle _ (by rw [peek_get, h])
   have hrw : ∀ H : Heap, H 0 = ⟨1, false, .row 1 (BL m)⟩ → ((peekH H 0 1 (BL m)).row 0 1 v 1).isSome = true := fun H h => Option.isSome_iff_exists.2 ⟨BL m, row_some.2 ⟨by rw [peek_get, h], by rw [peek_get], by simpa using hm⟩⟩
   have hbm : (BL m).length = v := by simpa using hm
   have hbd : (BL d).length = 64 := by simpa using hra.2
   have hnew : (⟨1, false, .row 1 ((BL m).take (64 * a) ++ BL d ++ (BL m).drop (64 * a + 64))⟩ : Blk) = ⟨1, false, .row 1 (BL (wr m a d))⟩ := by
    unfold wr
    rw [show 64 * (a + 1) = 64 * a + 64 by omega]
    simp [BL]
   by_cases hsi : i < safe
   ·have hsi' : (i : Int) < sf := (hsf i).2 hsi
    rw [if_pos hsi] at hgo
    repeat' (first
     | refine qS ?_ | refine qN ?_ | refine wo_atG rfl rfl (by omega) he2 rfl rfl ?_
     | refine wo_peek (j := 0) (s' := 1) (es := BL m) rfl (by exact congrArg Blk.st g0) rfl (BL_norefs m) (hof _ (by exact g0)) (hrw _ (by exact g0)) rfl (by kernel_rfl) ?_
     | refine wo_copyG (m := BL d) (es := BL m) rfl rfl (.inl rfl) (BL_norefs d) (by exact g0) hbm (by omega) hbd rfl (by kernel_rfl) ?_ | refine q_box (hl := by kernel_rfl) ?_
     | refine q_storeR ?_ (hr := by rfl) | refine q_loadR ?_ (hr := by rfl) (hl := by kernel_rfl) | refine qQba ?_ | refine q_cmp2 (fun _ => ?_) (fun _ => ?_))
    exact ⟨hlt, wr m a d, o, hgo, hwl, by omega, hnew, rfl, rfl, rfl, rfl, rfl, rfl, by show AV.int _ _ = AV.int _ _; congr 1, trivial⟩
   ·have hsi' : ¬ (i : Int) < sf := fun h => hsi ((hsf i).1 h)
    rw [if_neg hsi] at hgo
    by_cases hok2 : o < keep.length
    ·have hok2' : (o : Int) < (keep.length : Int) := by omega
     obtain rfl : s3 = 1 := hs3.resolve_right (fun h => by rw [h] at hok2; simp at hok2)
     have he3 : (keep.map AV.bool)[(o : Int).toNat]? = some (.bool keep[o]) := by
      rw [Int.toNat_natCast, List.getElem?_map, List.getElem?_eq_getElem hok2]; rfl
     have hgd : keep.getD o false = keep[o] := by simp [hok2]
     rw [hgd] at hgo
     generalize keep[o] = kb at *
     cases kb with
     | true =>
      rw [if_pos rfl] at hgo
      repeat' (first
       | refine qS ?_ | refine qN ?_ | refine wo_atG rfl rfl (by omega) he2 rfl rfl ?_ | refine wo_atG rfl rfl (by omega) he3 rfl rfl ?_
       | refine wo_lenG (n := keep.length) rfl hkm rfl rfl ?_
       | refine wo_peek (j := 0) (s' := 1) (es := BL m) rfl (by exact congrArg Blk.st g0) rfl (BL_norefs m) (hof _ (by exact g0)) (hrw _ (by exact g0)) rfl (by kernel_rfl) ?_
       | refine wo_copyG (m := BL d) (es := BL m) rfl rfl (.inl rfl) (BL_norefs d) (by exact g0) hbm (by omega) hbd rfl (by kernel_rfl) ?_ | refine q_box (hl := by kernel_rfl) ?_
       | refine q_storeR ?_ (hr := by rfl) | refine q_loadR ?_ (hr := by rfl) (hl := by kernel_rfl) | refine qQba ?_ | refine q_cmp2 (fun _ => ?_) (fun _ => ?_))
      exact ⟨hlt, wr m a d, o + 1, hgo, hwl, by omega, hnew, rfl, rfl, rfl, by show AV.int _ _ = AV.int _ _; congr 1, rfl, rfl, by show AV.int _ _ = AV.int _ _; congr 1, trivial⟩
     | false =>
      rw [if_neg (by decide)] at hgo
      repeat' (first
       | refine qS ?_ | refine qN ?_ | refine wo_atG rfl rfl (by omega) he2 rfl rfl ?_ | refine wo_atG rfl rfl (by omega) he3 rfl rfl ?_
       | refine wo_lenG (n := keep.length) rfl hkm rfl rfl ?_ | refine q_box (hl := by kernel_rfl) ?_ | refine q_storeR ?_ (hr := by rfl)
       | refine q_loadR ?_ (hr := by rfl) (hl := by kernel_rfl) | refine qQba ?_ | refine q_cmp2 (fun _ => ?_) (fun _ => ?_))
      exact ⟨hlt, m, o + 1, hgo, hm, by omega, g0, rfl, rfl, rfl, by show AV.int _ _ = AV.int _ _; congr 1, rfl, rfl, by show AV.int _ _ = AV.int _ _; congr 1, trivial⟩
    ·have hok2' : ¬ (o : Int) < (keep.length : Int) := by omega
     have hgd : keep.getD o false = false := by simp [List.getD_eq_getElem?_getD, List.getElem?_eq_none (by omega : keep.length ≤ o)]
     rw [hgd, if_neg (by decide)] at hgo
     repeat' (first
      | refine qS ?_ | refine qN ?_ | refine wo_atG rfl rfl (by omega) he2 rfl rfl ?_ | refine wo_lenG (n := keep.length) rfl hkm rfl rfl ?_ | refine q_box (hl := by kernel_rfl) ?_
      | refine q_storeR ?_ (hr := by rfl) | refine q_loadR ?_ (hr := by rfl) (hl := by kernel_rfl) | refine qQba ?_ | refine q_cmp2 (fun _ => ?_) (fun _ => ?_))
     exact ⟨hlt, m, o + 1, hgo, hm, by omega, g0, rfl, rfl, rfl, by show AV.int _ _ = AV.int _ _; congr 1, rfl, rfl, by show AV.int _ _ = AV.int _ _; congr 1, trivial⟩
  ·have hkd' : (kd : Int) ≠ 1 := by omega
   rw [if_pos hkd] at hgo
   repeat' (first
    | refine qS ?_ | refine qN ?_ | refine wo_atG rfl rfl (by omega) he2 rfl rfl ?_ | refine q_box (hl := by kernel_rfl) ?_ | refine q_storeR ?_ (hr := by rfl)
    | refine q_loadR ?_ (hr := by rfl) (hl := by kernel_rfl) | refine qQba ?_ | refine q_cmp2 (fun _ => ?_) (fun _ => ?_))
   exact ⟨hlt, m, o, hgo, hm, by omega, g0, rfl, rfl, rfl, rfl, rfl, rfl, by show AV.int _ _ = AV.int _ _; congr 1, trivial⟩
 ·have hin : i = ios.length := by omega
  subst hin
  rw [List.drop_length] at hgo
  unfold crashF at hgo
  repeat' (first | refine qS ?_ | refine qN ?_ | refine qQb ?_ | refine q_cmp2 (fun _ => ?_) (fun _ => ?_))
  exact ⟨rfl, by rw [hgo]; exact g0, rfl⟩
def crashAv (l : List UInt8) (ios : List IoV) (cut : Int) (keep : List Bool) : AV :=
 if stepsE l ios ≠ 0 then .tup [.islc false true 0 [], .int .i64 (stepsE l ios)] else if cut < 0 ∨ (ios.length : Int) < cut then .tup [.islc false true 0 [], .int .i64 1]
 else .tup [.islc false false 1 (BL (crashP l ios cut.toNat keep)), .int .i64 0]
theorem c_Crash (k : Nat) (hk : 1000050 ≤ k) (t f : Bool) (l : List UInt8) (hl : l.length < 1000000) (t' f' : Bool) (s' : Nat) (ios : List IoV) (hs : s' = 3 ∨ ios = []) (hil : ios.length < 100000) (hio : ∀ x ∈ ios, x.s = 1 ∨ x.data = []) (cut : Int) (t3 f3 : Bool) (s3 : Nat) (keep : List Bool) (hs3 : s3 = 1 ∨ keep = []) (hkl : keep.length < 100000) :
  FnV (CF k) n_dev_Crash [.islc t f 1 (BL l), .islc t' f' s' (ios.map IoV.av), .int .i64 cut, .islc t3 f3 s3 (keep.map AV.bool)] (crashAv l ios cut keep) := by
 have hst := c_dev_Steps (k - 1) (by omega) t f l hl t' f' s' ios hs hil
 have hml : (ios.map IoV.av).length = ios.length := List.length_map _
 refine fnk (by omega) B_dev_Crash rfl ?_
 unfold dev_Crash crashAv
 by_cases he : stepsE l ios = 0
 rotate_left 1
 ·rw [if_pos he]
  have he' : (stepsE l ios : Int) ≠ 0 := by omega
  repeat' (first | refine qS ?_ | refine qN ?_ | refine q_callB (hst) (fun _ => ?_) (fun _ => ?_) | refine q_call (hst) ?_ | refine qQb ?_ | refine q_cmp2 (fun _ => ?_) (fun _ => ?_))
  exact ⟨Or.inr rfl, _, rfl, rfl⟩
 rw [if_neg (fun h => h he)]
 obtain ⟨hd, hok⟩ := stepsE_ok he
 rw [he] at hst
 by_cases h0 : cut < 0
 ·rw [if_pos (.inl h0)]
  repeat' (first | refine qS ?_ | refine qN ?_ | refine wo_lenG (n := ios.length) rfl hml rfl rfl ?_ | refine q_callB (hst) (fun _ => ?_) (fun _ => ?_) | refine q_call (hst) ?_ | refine qQb ?_ | fail)
  exact ⟨Or.inr rfl, _, rfl, rfl⟩
 by_cases h1 : (ios.length : Int) < cut
 ·rw [if_pos (.inr h1)]
  repeat' (first | refine qS ?_ | refine qN ?_ | refine wo_lenG (n := ios.length) rfl hml rfl rfl ?_ | refine q_callB (hst) (fun _ => ?_) (fun _ => ?_) | refine q_call (hst) ?_ | refine qQb ?_ | fail)
  exact ⟨Or.inr rfl, _, rfl, rfl⟩
 rw [if_neg (fun h => h.elim h0 h1)]
 obtain ⟨c, hc⟩ : ∃ c : Nat, (c : Int) = cut := ⟨cut.toNat, by omega⟩
 subst hc
 have hcl : c ≤ ios.length := by omega
 rw [Int.toNat_natCast]
 have hne : BL l ≠ [] := by
  intro h
  have : l.length = 0 := by have := congrArg List.length h; simpa using this
  unfold devB at hd; omega
 have hcn := cloneB_F (k - 1) (by omega) t f (BL l) hne (BL_norefs l) (fun H => BL_fz true 5 H l) (by simpa using hl)
 have hbl : (BL l).length = l.length := by simp
 have hsl : ((ios.map IoV.av).drop 0).take (c - 0) = (ios.take c).map IoV.av := by rw [List.drop_zero, Nat.sub_zero, List.map_take]
 have htl : (ios.take c).length = c := by rw [List.length_take]; omega
 have hsll : (((ios.map IoV.av).drop 0).take (c - 0)).length = c := by rw [hsl, List.length_map, htl]
 have hfl := c_Flushes (k - 1) (by omega) t' (f' && decide (c = ios.length)) 3 (ios.take c) (.inl rfl) (by omega)
 obtain ⟨F, hF⟩ : ∃ F, F = flushesP (ios.take c) := ⟨_, rfl⟩
 have hFl : F.length ≤ c := by rw [hF]; exact Nat.le_trans (flushes_len _) (by omega)
 rw [← hF] at hfl
 have hfn : (NL F).length = F.length := NL_len F
 have hfz : ∀ H : Heap, fz false 6 H (.islc t' (f' && decide (c = ios.length)) 3 (((ios.map IoV.av).drop 0).take (c - 0))) = .islc t' (f' && decide (c = ios.length)) 3 ((ios.take c).map IoV.av) := fun H => by rw [hsl]; rfl
 unfold crashP lastF
 rw [← hF]
 have hloop : ∀ (sf : Int) (T : Tmps) (H : Heap), (∀ i : Nat, (i : Int) < sf ↔ i < F.getD (F.length - 1) 0) → H 0 = ⟨1, false, .row 1 (BL l)⟩ → Has T [(3, .islc t3 f3 s3 (keep.map AV.bool)), (11, .int .i64 sf), (13, .slc 0 1 l.length 1 0 l.length none), (14, .int .i64 0), (51, .islc t' (f' && decide (c = ios.length)) 3 ((ios.take c).map IoV.av)), (52, .int .i64 c), (53, .int .i64 0)] →
   W (aexec (CF (k - 1)) noX 0 (k - 1) (.loop dev_Crash_l0) T H) (fun ex T' H' => ex = .exit 1 ∧ H' 0 = ⟨1, false, .row 1 (BL (crashF (F.getD (F.length - 1) 0) keep (ios.take c) 0 0 l))⟩ ∧ T' 13 = .slc 0 1 l.length 1 0 l.length none) := by
  intro sf T H hsf hH hT
  refine crash_loop (k := k - 1) (l := l) (ios := ios.take c) (keep := keep) (safe := F.getD (F.length - 1) 0) (sf := sf) (t' := t') (f' := f' && decide (c = ios.length)) (t3 := t3) (f3 := f3) (s' := 3) (s3 := s3) (v := l.length) (by omega) rfl hl (by omega) (.inl rfl) (fun x hx => ⟨hok x (List.mem_of_mem_take hx), hio x (List.mem_of_mem_take hx)⟩) hs3 hkl hsf hH ?_
  rw [htl]; exact hT
 have hfin : ∀ H2 : Heap, H2 0 = ⟨1, false, .row 1 (BL (crashF (F.getD (F.length - 1) 0) keep (ios.take c) 0 0 l))⟩ → AV.tup [fz true (3 + 2) H2 (.slc 0 1 l.length 1 0 l.length none), .int .i64 0] = .tup [.islc false false 1 (BL (crashF (F.getD (F.length - 1) 0) keep (ios.take c) 0 0 l)), .int .i64 0] := by
  intro H2 g0
  have hal : (crashF (F.getD (F.length - 1) 0) keep (ios.take c) 0 0 l).length = l.length := by
   rw [crashF_eq]
   exact applyP_len _ _ fun x hx => rightP_fit (hok x (List.mem_of_mem_take (crashSel_mem _ _ _ x hx).1))
  rw [fz_slcB (row_of g0 (by simpa using hal)) (by omega), List.drop_zero, List.take_of_length_le (by omega)]; rfl
 have hs3' : ((ios.map IoV.av).length) = ios.length := hml
 by_cases hs0 : s' = 3
 rotate_left 1
 ·
  have hi0 : ios = [] := hs.resolve_left hs0
  subst hi0
  obtain rfl : c = 0 := by simpa using hcl
  obtain rfl : F = [] := by rw [hF]; rfl
  repeat' (first
   | refine qS ?_ | refine qN ?_ | refine wo_lenG (n := 0) rfl rfl rfl rfl ?_
   | refine wo_sliceG (n := 0) (a := 0) (b := 0) rfl (.inr rfl) rfl rfl (optNn rfl) (by omega) (by omega) rfl rfl ?_ | refine q_call hfl ?_ | refine wo_freshG hcn hbl rfl rfl rfl ?_
   | refine q_callB (hst) (fun _ => ?_) (fun _ => ?_) | refine q_call (hst) ?_ | refine qQb ?_ | fail)
  refine W.mono (hloop (-1) _ _ (fun i => by simp) rfl ⟨rfl, rfl, rfl, rfl, rfl, rfl, rfl, trivial⟩) ?_
  rintro ex T2 H2 ⟨rfl, g0, h13⟩
  rw [Has.eq (T := T2) (ps := [(13, _)]) ⟨h13, trivial⟩]
  simp only [over]
  show W _ _
  repeat' (first | refine qS ?_ | refine qN ?_ | refine qQb ?_ | refine q_cmp2 (fun _ => ?_) (fun _ => ?_))
  exact ⟨Or.inr rfl, .tup [.slc 0 1 l.length 1 0 l.length none, .int .i64 0], rfl, hfin H2 g0⟩
 subst hs0
 by_cases hF0 : F = []
 ·subst hF0
  repeat' (first
   | refine qS ?_ | refine qN ?_ | refine wo_lenG (n := ios.length) rfl hml rfl rfl ?_
   | refine wo_sliceG (n := ios.length) (a := 0) (b := c) rfl (.inl rfl) hml rfl (optNn rfl) (by omega) hcl rfl rfl ?_ | refine q_call hfl ?_ rfl (by exact congrArg (fun z => [z]) (hfz _))
   | refine wo_lenG (n := 0) rfl rfl rfl rfl ?_ | refine wo_lenG (n := c) rfl hsll rfl rfl ?_ | refine wo_freshG hcn hbl rfl rfl rfl ?_ | refine q_callB (hst) (fun _ => ?_) (fun _ => ?_)
   | refine q_call (hst) ?_ | refine qQb ?_ | fail)
  refine W.mono (hloop (-1) _ _ (fun i => by simp) rfl ⟨rfl, rfl, rfl, rfl, congrArg (AV.islc _ _ _) hsl, rfl, rfl, trivial⟩) ?_
  rintro ex T2 H2 ⟨rfl, g0, h13⟩
  rw [Has.eq (T := T2) (ps := [(13, _)]) ⟨h13, trivial⟩]
  simp only [over]
  show W _ _
  repeat' (first | refine qS ?_ | refine qN ?_ | refine qQb ?_ | refine q_cmp2 (fun _ => ?_) (fun _ => ?_))
  exact ⟨Or.inr rfl, .tup [.slc 0 1 l.length 1 0 l.length none, .int .i64 0], rfl, hfin H2 g0⟩
 ·have hFp : 0 < F.length := List.length_pos_iff.2 hF0
  have hFp' : (F.length : Int) > 0 := by omega
  have hidx : (NL F)[((F.length : Int) - 1).toNat]? = some (.int .i64 (F.getD (F.length - 1) 0 : Nat)) := by
   rw [show ((F.length : Int) - 1).toNat = F.length - 1 by omega]
   unfold NL
   rw [List.getElem?_map, List.getElem?_eq_getElem (by omega), List.getD_eq_getElem?_getD, List.getElem?_eq_getElem (by omega)]; rfl
  repeat' (first
   | refine qS ?_ | refine qN ?_ | refine wo_lenG (n := ios.length) rfl hml rfl rfl ?_
   | refine wo_sliceG (n := ios.length) (a := 0) (b := c) rfl (.inl rfl) hml rfl (optNn rfl) (by omega) hcl rfl rfl ?_ | refine q_call hfl ?_ rfl (by exact congrArg (fun z => [z]) (hfz _))
   | refine wo_lenG (n := F.length) rfl hfn rfl rfl ?_ | refine wo_lenG (n := c) rfl hsll rfl rfl ?_ | refine wo_atG rfl rfl (by omega) hidx rfl rfl ?_
   | refine wo_freshG hcn hbl rfl rfl rfl ?_ | refine q_callB (hst) (fun _ => ?_) (fun _ => ?_) | refine q_call (hst) ?_ | refine qQba ?_ | fail)
  refine W.mono (hloop (F.getD (F.length - 1) 0 : Nat) _ _ (fun i => by omega) rfl ⟨rfl, rfl, rfl, rfl, congrArg (AV.islc _ _ _) hsl, rfl, rfl, trivial⟩) ?_
  rintro ex T2 H2 ⟨rfl, g0, h13⟩
  rw [Has.eq (T := T2) (ps := [(13, _)]) ⟨h13, trivial⟩]
  simp only [over]
  show W _ _
  repeat' (first | refine qS ?_ | refine qN ?_ | refine qQb ?_ | refine q_cmp2 (fun _ => ?_) (fun _ => ?_))
  exact ⟨Or.inr rfl, .tup [.slc 0 1 l.length 1 0 l.length none, .int .i64 0], rfl, hfin H2 g0⟩
end Go.Proofs.YtkaiiopoilpjeaaGreat
set_option linter.unusedSimpArgs false
set_option linter.unusedVariables false
set_option maxRecDepth 10000
set_option maxHeartbeats 16000000
namespace Go.Proofs.YtkaiiopoilpjeaaGreat
open Go.AI
def statesG : List UInt8 → List IoV → List Nat → Nat → Nat → List ViewV → Except Nat (List ViewV)
 | _, _, [], _, _, acc => .ok acc
 | img, ios, a :: r, i, frm, acc => if i % 2 ≠ 1 then statesG img ios r (i + 1) frm acc else
  match lookQ (applyP img ((ios.drop frm).take (a + 1 - frm))) with
  | .error (_, e) => .error e
  | .ok x => statesG (applyP img ((ios.drop frm).take (a + 1 - frm))) ios r (i + 1) (a + 1) (acc ++ [viewP (applyP img ((ios.drop frm).take (a + 1 - frm))) x])
def statesP (l : List UInt8) (ios : List IoV) : Except Nat (List ViewV) := if stepsE l ios ≠ 0 then .error (stepsE l ios) else
 match lookQ l with
 | .error (_, e) => .error e
 | .ok x => statesG l ios (flushesP ios) 0 0 [viewP l x]
def stAv : Except Nat (List ViewV) → AV
 | .ok vs => .tup [.islc false false 3 (vs.map ViewV.av), .int .i64 0]
 | .error e => .tup [.islc false false 3 [], .int .i64 e]
def afterAv (l : List UInt8) (ios : List IoV) (cut : Int) (keep : List Bool) : AV :=
 if stepsE l ios ≠ 0 then .tup [.agg [.islc false true 0 [], .islc false true 0 [], .islc false true 0 []], .int .i64 (stepsE l ios)] else if cut < 0 ∨ (ios.length : Int) < cut then .tup [.agg [.islc false true 0 [], .islc false true 0 [], .islc false true 0 []], .int .i64 1]
 else viewQ (crashP l ios cut.toNat keep) (lookQ (crashP l ios cut.toNat keep))
theorem viewQ_gen (l : List UInt8) : ∃ (f1 f2 f3 : Bool) (s1 s2 s3 : Nat) (e1 e2 e3 : List AV) (e : Nat), viewQ l (lookQ l) = .tup [.agg [.islc false f1 s1 e1, .islc false f2 s2 e2, .islc false f3 s3 e3], .int .i64 e] := by
 cases lookQ l with
 | error p => obtain ⟨a, e⟩ := p; exact ⟨_, _, _, _, _, _, _, _, _, e, rfl⟩
 | ok x =>
  obtain ⟨f2, s2, h2, _⟩ := snapsAvF (viewP l x).snaps
  obtain ⟨f3, s3, h3, _⟩ := snapsAvF (viewP l x).opens
  refine ⟨false, f2, f3, 1, s2, s3, (viewP l x).head.map rowAv, (viewP l x).snaps.map SnapV.av, (viewP l x).opens.map SnapV.av, 0, ?_⟩
  unfold viewQ ViewV.cs
  simp only
  rw [h2, h3]
  rfl
attribute [local irreducible] aops aexec acall aiter aop W WO
theorem c_After (k : Nat) (hk : 1000300 ≤ k) (t f : Bool) (l : List UInt8) (hl : l.length < 1000000) (t' f' : Bool) (s' : Nat) (ios : List IoV) (hs : s' = 3 ∨ ios = []) (hil : ios.length < 100000) (hio : ∀ x ∈ ios, x.s = 1 ∨ x.data = []) (cut : Int) (t3 f3 : Bool) (s3 : Nat) (keep : List Bool) (hs3 : s3 = 1 ∨ keep = []) (hkl : keep.length < 100000) :
  FnV (CF k) n_crash_After [.islc t f 1 (BL l), .islc t' f' s' (ios.map IoV.av), .int .i64 cut, .islc t3 f3 s3 (keep.map AV.bool)] (afterAv l ios cut keep) := by
 have hcr := c_Crash (k - 1) (by omega) t f l hl t' f' s' ios hs hil hio cut t3 f3 s3 keep hs3 hkl
 refine fnk (by omega) B_crash_After rfl ?_
 unfold crash_After
 unfold crashAv at hcr
 unfold afterAv
 by_cases he : stepsE l ios = 0
 rotate_left 1
 ·rw [if_pos he] at hcr ⊢
  have he' : (stepsE l ios : Int) ≠ 0 := by omega
  repeat' (first | refine q_callB (hcr) (fun _ => ?_) (fun _ => ?_) | refine q_call (hcr) ?_ | refine qQb ?_ | refine q_cmp2 (fun _ => ?_) (fun _ => ?_))
  exact ⟨Or.inr rfl, _, rfl, rfl⟩
 rw [if_neg (fun h => h he)] at hcr ⊢
 by_cases h0 : cut < 0 ∨ (ios.length : Int) < cut
 ·rw [if_pos h0] at hcr ⊢
  repeat' (first | refine q_callB (hcr) (fun _ => ?_) (fun _ => ?_) | refine q_call (hcr) ?_ | refine qQb ?_ | refine q_cmp2 (fun _ => ?_) (fun _ => ?_))
  exact ⟨Or.inr rfl, _, rfl, rfl⟩
 rw [if_neg h0] at hcr ⊢
 have hcl : (crashP l ios cut.toNat keep).length < 1000000 := by
  rw [crashP_len fun x hx => rightP_fit ((stepsE_ok he).2 x hx)]; exact hl
 have hv := c_view_Of (k - 1) (by omega) false (crashP l ios cut.toNat keep) hcl
 obtain ⟨f1, f2, f3, s1, s2, s3, e1, e2, e3, e, hvq⟩ := viewQ_gen (crashP l ios cut.toNat keep)
 rw [hvq] at hv ⊢
 repeat' (first | refine qS ?_ | refine q_call hv ?_ | refine q_callB (hcr) (fun _ => ?_) (fun _ => ?_) | refine q_call (hcr) ?_ | refine qQb ?_ | refine q_cmp2 (fun _ => ?_) (fun _ => ?_))
 exact ⟨Or.inr rfl, _, rfl, rfl⟩
theorem states_loop {k : Nat} {l : List UInt8} {ios : List IoV} {t' f' : Bool} {v0 : ViewV} {T : Tmps} {H : Heap} {f0 : Bool} (hk : 1000300 ≤ k) (hl : l.length < 1000000) (hil : ios.length < 100000) (hok : ∀ x ∈ ios, rightP (nb l) x ∧ (x.s = 1 ∨ x.data = [])) (hdv : devB l.length)
  {c1 c2 c3 : AV} (h2 : H 2 = ⟨1, false, .row 3 [.agg [c1, c2, c3]]⟩) (h4 : H 4 = ⟨1, false, .row 3 [v0.av]⟩)
  (hT : Has T [(0, .islc false f0 1 (BL l)), (1, .islc t' f' 3 (ios.map IoV.av)), (7, .ptr 2 1 1 3 0 0), (8, .slc 4 1 1 3 0 1 none), (9, .int .i64 0), (29, .islc false false 1 (NL (flushesP ios))), (30, .int .i64 (flushesP ios).length), (31, .int .i64 0)]) :
  W (aexec (CF k) noX 0 k (.loop crash_States_l0) T H) (fun ex T' H' => (ex = .exit 0 ∧ ∃ vs, statesG l ios (flushesP ios) 0 0 [v0] = .ok vs ∧ H' 4 = ⟨1, false, .row 3 (vs.map ViewV.av)⟩ ∧ T' 8 = .slc 4 1 vs.length 3 0 vs.length none) ∨
   (ex = .ret ∧ ∃ e g : Nat, statesG l ios (flushesP ios) 0 0 [v0] = .error e ∧ T' 4 = .slc 5 g 0 3 0 0 none ∧ T' 5 = .int .i64 e ∧ H' 5 = ⟨g, false, .row 3 []⟩)) := by
 generalize hG : statesG l ios (flushesP ios) 0 0 [v0] = tot
 have hrg := flushG_range ios 0
 obtain ⟨F, hF⟩ : ∃ F, F = flushesP ios := ⟨_, rfl⟩
 rw [← hF] at hG hT
 have hFr : (∀ a ∈ F, a < ios.length) ∧ F.Pairwise (· < ·) := by
  rw [hF]; exact ⟨fun a ha => by have := (hrg.1 a ha).2; omega, hrg.2⟩
 have hFl : F.length ≤ ios.length := by rw [hF]; exact flushes_len ios
 clear hrg
 refine w_for F.length (fun i T' H' => ∃ (img : List UInt8) (f0 : Bool) (frm : Nat) (acc : List ViewV) (c1 c2 c3 : AV), tot = statesG img ios (F.drop i) i frm acc ∧ img.length = l.length ∧ (∀ a ∈ F.drop i, frm ≤ a) ∧ frm ≤ ios.length ∧ acc.length ≤ i + 1 ∧
   H' 2 = ⟨1, false, .row 3 [.agg [c1, c2, c3]]⟩ ∧ H' 4 = ⟨1, false, .row 3 (acc.map ViewV.av)⟩ ∧
   Has T' [(0, .islc false f0 1 (BL img)), (1, .islc t' f' 3 (ios.map IoV.av)), (7, .ptr 2 1 1 3 0 0), (8, .slc 4 1 acc.length 3 0 acc.length none), (9, .int .i64 frm), (29, .islc false false 1 (NL F)), (30, .int .i64 F.length), (31, .int .i64 (i : Nat))])
  ⟨l, f0, 0, [v0], c1, c2, c3, hG.symm, rfl, fun a _ => Nat.zero_le a, Nat.zero_le _, by simp, h2, h4, hT⟩ (by omega) ?_
 rintro i T H hi ⟨img, f0, frm, acc, c1, c2, c3, hgo, him, hfr, hfl, hal, g2, g4, hT⟩
 rw [hT.eq]
 simp only [over]
 unfold crash_States_l0
 by_cases hlt : i < F.length
 ·rw [List.drop_eq_getElem_cons hlt] at hgo hfr
  obtain ⟨a, ha⟩ : ∃ a, a = F[i] := ⟨_, rfl⟩
  rw [← ha] at hgo hfr
  have hal2 : a < ios.length := by rw [ha]; exact hFr.1 _ (List.getElem_mem hlt)
  have hnx : ∀ b ∈ F.drop (i + 1), a < b := by
   have hp := hFr.2
   rw [← List.take_append_drop i F, List.pairwise_append, List.drop_eq_getElem_cons hlt, ← ha, List.pairwise_cons] at hp
   exact hp.2.1.1
  have hfa := hfr a (by simp)
  have he2 : (NL F)[(i : Int).toNat]? = some (.int .i64 (a : Nat)) := by
   rw [Int.toNat_natCast]; unfold NL; rw [List.getElem?_map, List.getElem?_eq_getElem hlt, ← ha]; rfl
  simp only [statesG] at hgo
  by_cases hodd : i % 2 = 1
  rotate_left 1
  ·rw [if_pos hodd] at hgo
   have hodd' : (i : Int) % 2 ≠ 1 := by omega
   repeat' (first | refine qS ?_ | refine wo_atG rfl rfl (by omega) he2 rfl rfl ?_ | refine qQa ?_ | refine q_app fun _ => ?_)
   exact ⟨hlt, img, f0, frm, acc, c1, c2, c3, hgo, him, fun b hb => hfr b (by simp [hb]), hfl, by omega, g2, g4, rfl, rfl, rfl, rfl, rfl, rfl, rfl, by show AV.int _ _ = AV.int _ _; congr 1, trivial⟩
  rw [if_neg (fun h => h hodd)] at hgo
  have hodd' : (i : Int) % 2 = 1 := by omega
  have hml : (ios.map IoV.av).length = ios.length := List.length_map _
  obtain ⟨sub, hsub⟩ : ∃ s, s = (ios.drop frm).take (a + 1 - frm) := ⟨_, rfl⟩
  have hsm : ∀ x ∈ sub, x ∈ ios := fun x hx => by rw [hsub] at hx; exact List.mem_of_mem_drop (List.mem_of_mem_take hx)
  have hsl : ((ios.map IoV.av).drop frm).take (a + 1 - frm) = sub.map IoV.av := by rw [hsub, List.map_take, List.map_drop]
  have hsle : sub.length ≤ ios.length := by rw [hsub, List.length_take, List.length_drop]; omega
  rw [← hsub] at hgo
  have hnb : nb img = nb l := by unfold nb; rw [him]
  have hst0 : stepsE img sub = 0 := by
   unfold stepsE
   rw [if_neg (fun h => h (by rw [him]; exact hdv)), if_neg]
   intro h
   obtain ⟨x, hx, hxe⟩ := List.any_eq_true.1 h
   rw [hnb, decide_eq_true (hok x (hsm x hx)).1] at hxe
   cases hxe
  have hap := c_Apply k (by omega) false f0 img (by rw [him]; exact hl) t' (f' && decide (a + 1 = ios.length)) 3 sub (.inl rfl) (by omega) (fun x hx => (hok x (hsm x hx)).2)
  unfold applyAv at hap
  rw [if_neg (fun h => h hst0)] at hap
  have hal3 : (applyP img sub).length = l.length := by
   rw [applyP_len _ _ (fun x hx => by rw [hnb]; exact rightP_fit (hok x (hsm x hx)).1)]; exact him
  have hvw := c_view_Of k (by omega) false (applyP img sub) (by rw [hal3]; exact hl)
  have e1 : (a : Int) + 1 = ((a + 1 : Nat) : Int) := by omega
  have hfz : ∀ (z : AV) (H : Heap), fz false 6 H z = z → [z, AV.islc t' (f' && decide (a + 1 = ios.length)) 3 (((ios.map IoV.av).drop frm).take (a + 1 - frm))].map (fz false 6 H) = [z, .islc t' (f' && decide (a + 1 = ios.length)) 3 (sub.map IoV.av)] := by
   intro z H hz
   rw [hsl]
   show [fz false 6 H z, _] = _
   rw [hz]; rfl
  generalize applyP img sub = img2 at *
  cases hq : lookQ img2 with
  | error p =>
   obtain ⟨b, e⟩ := p
   have hee := lookQ_err hq
   rw [hq] at hvw hgo
   unfold viewQ at hvw
   simp only at hvw hgo
   have he0 : (e : Int) ≠ 0 := by omega
   repeat' (first
    | refine qS ?_ | refine wo_atG rfl rfl (by omega) he2 rfl rfl ?_ | (rw [e1])
    | refine wo_sliceG (n := ios.length) (a := frm) (b := a + 1) rfl (.inl rfl) hml (optNn rfl) (optNn rfl) (by omega) (by omega) rfl rfl ?_
    | refine q_call hap ?_ rfl (by exact hfz _ _ rfl) | refine q_call hvw ?_ | refine q_storeR ?_ (hr := by exact g2) | refine qQa ?_ | refine q_app fun _ => ?_)
   exact .inr ⟨rfl, e, _, hgo, rfl, rfl, rfl⟩
  | ok x =>
   rw [hq] at hvw hgo
   unfold viewQ at hvw
   simp only at hvw hgo
   obtain ⟨fS, sS, eS, hS⟩ := snapsAvF (viewP img2 x).snaps
   obtain ⟨fO, sO, eO, hO⟩ := snapsAvF (viewP img2 x).opens
   obtain ⟨w, hw⟩ : ∃ w, w = viewP img2 x := ⟨_, rfl⟩
   rw [← hw] at hgo hvw eS eO
   have hvw' : FnV (CF k) n_view_Of [.islc false false 1 (BL img2)] (.tup [.agg [.islc false false 1 (w.head.map rowAv), .islc false fS sS (w.snaps.map SnapV.av), .islc false fO sO (w.opens.map SnapV.av)], .int .i64 0]) := by
    rw [← eS, ← eO]; exact hvw
   have hwa : w.av = .agg [.islc false false 1 (w.head.map rowAv), .islc false fS sS (w.snaps.map SnapV.av), .islc false fO sO (w.opens.map SnapV.av)] := by
    rw [← eS, ← eO]; rfl
   have ham : (acc.map ViewV.av).length = acc.length := List.length_map _
   repeat' (first
    | refine qS ?_ | refine wo_atG rfl rfl (by omega) he2 rfl rfl ?_ | (rw [e1])
    | refine wo_sliceG (n := ios.length) (a := frm) (b := a + 1) rfl (.inl rfl) hml (optNn rfl) (optNn rfl) (by omega) (by omega) rfl rfl ?_
    | refine q_call hap ?_ rfl (by exact hfz _ _ rfl) | refine q_call hvw' ?_ | refine q_storeR ?_ (hr := by exact g2) | refine q_loadR ?_ (hr := by rfl)
    | refine wo_app1 (e := .agg [.islc false false 1 (w.head.map rowAv), .islc false fS sS (w.snaps.map SnapV.av), .islc false fO sO (w.opens.map SnapV.av)]) rfl rfl rfl (by exact g4) ham rfl (by omega) rfl rfl (fun _ => ?_)
    | refine qQa ?_ | refine q_app fun _ => ?_)
   refine ⟨hlt, img2, false, a + 1, acc ++ [w], _, _, _, hgo, hal3, fun b hb => hnx b hb, by omega, by simp; omega, rfl, ?_, rfl, rfl, rfl, ?_, by show AV.int _ _ = AV.int _ _; congr 1, rfl, rfl, by show AV.int _ _ = AV.int _ _; congr 1, trivial⟩
   ·rw [List.map_append, List.map_cons, List.map_nil, hwa]; rfl
   ·rw [List.length_append]; rfl
 ·have hin : i = F.length := by omega
  subst hin
  rw [List.drop_length] at hgo
  simp only [statesG] at hgo
  repeat' (first | refine qQ ?_ | refine q_cmp2 (fun _ => ?_) (fun _ => ?_) | refine q_app fun _ => ?_)
  exact .inl ⟨rfl, acc, hgo, g4, rfl⟩
theorem fz_views {H : Heap} {j g : Nat} {vs : List ViewV} (h : H j = ⟨g, false, .row 3 (vs.map ViewV.av)⟩) (n : Nat) : fz true (n + 3) H (.slc j g vs.length 3 0 vs.length none) = .islc false false 3 (vs.map ViewV.av) := by
 have e : (vs.map ViewV.av).map (fz true (n + 2) H) = vs.map ViewV.av := by
  rw [List.map_map]
  refine List.map_congr_left fun v _ => ?_
  show AV.agg [_, fz true (n + 1) H (snapsAv v.snaps), fz true (n + 1) H (snapsAv v.opens)] = AV.agg [_, _, _]
  obtain ⟨f2, s2, h2, _⟩ := snapsAvF v.snaps
  obtain ⟨f3, s3, h3, _⟩ := snapsAvF v.opens
  rw [h2, h3]; rfl
 show fz true (n + 2 + 1) H _ = _
 rw [fz_slc (row_of h (by simp)) (by omega), List.drop_zero, List.take_of_length_le (by simp), e]
 rfl
theorem c_States (k : Nat) (hk : 1000400 ≤ k) (f : Bool) (l : List UInt8) (hl : l.length < 1000000) (t' f' : Bool) (ios : List IoV) (hil : ios.length < 100000) (hio : ∀ x ∈ ios, x.s = 1 ∨ x.data = []) :
  FnV (CF k) n_crash_States [.islc false f 1 (BL l), .islc t' f' 3 (ios.map IoV.av)] (stAv (statesP l ios)) := by
 have hst := c_dev_Steps (k - 1) (by omega) false f l hl t' f' 3 ios (.inl rfl) hil
 refine fnk (by omega) B_crash_States rfl ?_
 unfold crash_States statesP
 by_cases he : stepsE l ios = 0
 rotate_left 1
 ·rw [if_pos he]
  have he' : (stepsE l ios : Int) ≠ 0 := by omega
  repeat' (first | refine q_callB (hst) (fun _ => ?_) (fun _ => ?_) | refine q_call (hst) ?_ | refine qQ ?_ | refine q_cmp2 (fun _ => ?_) (fun _ => ?_) | refine q_app fun _ => ?_)
  refine ⟨Or.inr rfl, .tup [.slc 1 1 0 3 0 0 none, .int .i64 (stepsE l ios)], rfl, ?_⟩
  exact congrArg (fun z => AV.tup [z, .int .i64 (stepsE l ios)]) (fz_views (vs := []) (by rfl) 2)
 rw [if_neg (fun h => h he)]
 obtain ⟨hd, hok⟩ := stepsE_ok he
 rw [he] at hst
 have hvw := c_view_Of (k - 1) (by omega) f l hl
 have hfl := c_Flushes (k - 1) (by omega) t' f' 3 ios (.inl rfl) hil
 cases hq : lookQ l with
 | error p =>
  obtain ⟨b, e⟩ := p
  have hee := lookQ_err hq
  rw [hq] at hvw
  unfold viewQ at hvw
  simp only at hvw ⊢
  have he0 : (e : Int) ≠ 0 := by omega
  repeat' (first | refine qS ?_ | refine q_call hvw ?_ | refine q_callB (hst) (fun _ => ?_) (fun _ => ?_) | refine q_call (hst) ?_ | refine qQ ?_ | refine q_app fun _ => ?_)
  refine ⟨Or.inr rfl, .tup [.slc 3 1 0 3 0 0 none, .int .i64 e], rfl, ?_⟩
  exact congrArg (fun z => AV.tup [z, .int .i64 e]) (fz_views (vs := []) (by rfl) 2)
 | ok x =>
  rw [hq] at hvw
  unfold viewQ at hvw
  simp only at hvw ⊢
  obtain ⟨fS, sS, eS, hS⟩ := snapsAvF (viewP l x).snaps
  obtain ⟨fO, sO, eO, hO⟩ := snapsAvF (viewP l x).opens
  obtain ⟨w, hw⟩ : ∃ w, w = viewP l x := ⟨_, rfl⟩
  rw [← hw] at hvw eS eO ⊢
  have hvw' : FnV (CF (k - 1)) n_view_Of [.islc false f 1 (BL l)] (.tup [.agg [.islc false false 1 (w.head.map rowAv), .islc false fS sS (w.snaps.map SnapV.av), .islc false fO sO (w.opens.map SnapV.av)], .int .i64 0]) := by
   rw [← eS, ← eO]; exact hvw
  have hwa : w.av = .agg [.islc false false 1 (w.head.map rowAv), .islc false fS sS (w.snaps.map SnapV.av), .islc false fO sO (w.opens.map SnapV.av)] := by
   rw [← eS, ← eO]; rfl
  have hfn : (NL (flushesP ios)).length = (flushesP ios).length := NL_len _
  repeat' (first
   | refine qS ?_ | refine q_call hvw' ?_ | refine q_call hfl ?_ | refine q_box ?_ (hl := by kernel_rfl) | refine wo_lenG (n := (flushesP ios).length) rfl hfn rfl rfl ?_
   | refine q_callB (hst) (fun _ => ?_) (fun _ => ?_) | refine q_call (hst) ?_ | refine qQ ?_ | refine q_app fun _ => ?_)
  refine W.mono (states_loop (k := k - 1) (l := l) (ios := ios) (t' := t') (f' := f') (v0 := w) (f0 := f) (c1 := .islc false false 1 (w.head.map rowAv)) (c2 := .islc false fS sS (w.snaps.map SnapV.av)) (c3 := .islc false fO sO (w.opens.map SnapV.av)) (by omega) hl hil (fun x hx => ⟨hok x hx, hio x hx⟩) hd ?_ ?_ ?_) ?_
  ·rfl
  ·rw [hwa]; rfl
  ·exact ⟨rfl, rfl, rfl, rfl, rfl, rfl, rfl, rfl, trivial⟩
  rintro ex T2 H2 (⟨rfl, vs, hvs, g4, h8⟩ | ⟨rfl, e, g, hvs, h4, h5, g5⟩)
  ·rw [hvs, Has.eq (T := T2) (ps := [(8, _)]) ⟨h8, trivial⟩]
   simp only [over]
   show W _ _
   repeat' (first | refine qQ ?_ | refine q_cmp2 (fun _ => ?_) (fun _ => ?_) | refine q_app fun _ => ?_)
   refine ⟨Or.inr rfl, .tup [.slc 4 1 vs.length 3 0 vs.length none, .int .i64 0], rfl, ?_⟩
   exact congrArg (fun z => AV.tup [z, .int .i64 0]) (fz_views g4 2)
  ·rw [hvs]
   refine ⟨Or.inr rfl, .tup [.slc 5 g 0 3 0 0 none, .int .i64 e], ?_, ?_⟩
   ·show aresults T2 H2 [.tmp 4, .tmp 5] = _
    simp only [aresults, ares, List.mapM_cons, List.mapM_nil, h4, h5]; rfl
   ·exact congrArg (fun z => AV.tup [z, .int .i64 e]) (fz_views (vs := []) g5 2)
theorem c_Commits (k : Nat) (hk : 1000010 ≤ k) (t f : Bool) (s : Nat) (ios : List IoV) (hs : s = 3 ∨ ios = []) (hil : ios.length < 100000) : FnV (CF k) n_crash_Commits [.islc t f s (ios.map IoV.av)] (.int .i64 ((flushesP ios).length / 2 : Nat)) := by
 have hfl := c_Flushes (k - 1) (by omega) t f s ios hs hil
 have hfn : (NL (flushesP ios)).length = (flushesP ios).length := NL_len _
 have hb := flushes_len ios
 generalize flushesP ios = F at *
 refine fnk (by omega) B_crash_Commits rfl ?_
 unfold crash_Commits
 repeat' (first | refine qS ?_ | refine q_call hfl ?_ | refine wo_lenG (n := F.length) rfl hfn rfl rfl ?_ | refine qQ ?_ | fail)
 refine ⟨Or.inr rfl, _, rfl, ?_⟩
 show AV.int _ _ = AV.int _ _
 congr 1
end Go.Proofs.YtkaiiopoilpjeaaGreat
set_option linter.unusedSimpArgs false
set_option linter.unusedVariables false
set_option maxRecDepth 10000
namespace Go.Proofs.YtkaiiopoilpjeaaGreat
open Go.AI
theorem applyP_skip (l : List UInt8) (a b : List IoV) (x : IoV) (h : x.kind ≠ 1) : applyP l (a ++ x :: b) = applyP l (a ++ b) := by
 rw [applyP_append, applyP_append]
 show applyP (if x.kind = 1 then _ else applyP l a) b = _
 rw [if_neg h]
theorem iosW_kind (ios : List IoV) : ∀ x ∈ iosW ios, x.kind = 1 := by
 intro x hx
 obtain ⟨y, hy, rfl⟩ := List.mem_map.1 hx
 rfl
theorem iosW_len (ios : List IoV) : (iosW ios).length = ios.length := List.length_map _
theorem crashSel_safe {safe : Nat} {keep : List Bool} : ∀ (a b : List IoV) (i o : Nat), (∀ x ∈ a, x.kind = 1) → i + a.length ≤ safe → crashSel safe keep (a ++ b) i o = a ++ crashSel safe keep b (i + a.length) o
 | [], b, i, o, _, _ => by simp
 | x :: a, b, i, o, h, hs => by
  simp only [List.length_cons] at hs
  have h1 := crashSel_safe (safe := safe) (keep := keep) a b (i + 1) o (fun y hy => h y (by simp [hy])) (by omega)
  have hx : ¬ (x.kind ≠ 1) := fun hh => hh (h x (by simp))
  simp only [List.cons_append, crashSel, List.length_cons]
  rw [if_neg hx, if_pos (by omega), h1, show i + 1 + a.length = i + (a.length + 1) by omega]
theorem flushG_writes : ∀ (a : List IoV) (i : Nat), (∀ x ∈ a, x.kind = 1) → flushG a i = []
 | [], _, _ => rfl
 | x :: a, i, h => by
  have hx : ¬ (x.kind = 2) := by have := h x (by simp); omega
  simp only [flushG]
  rw [if_neg hx, flushG_writes a (i + 1) (fun y hy => h y (by simp [hy]))]; rfl
section
variable {s : Sup} {slot : Nat} {ios : List IoV} {root size first : Nat}
theorem stepsL_split : stepsL s slot ios root size first = iosW ios ++ [flushIo, wIo (1 - slot) (supB (nextS s root size first)), flushIo] := by unfold stepsL; simp
theorem stepsL_len : (stepsL s slot ios root size first).length = ios.length + 3 := by rw [stepsL_split, List.length_append, iosW_len]; rfl
theorem steps_flushes (cut : Nat) (h : cut ≤ ios.length + 3) : flushesP ((stepsL s slot ios root size first).take cut) = (if cut ≤ ios.length then [] else if cut ≤ ios.length + 2 then [ios.length] else [ios.length, ios.length + 2]) := by
 have hw := flushG_writes (iosW ios) 0 (iosW_kind ios)
 have hl := iosW_len ios
 rw [stepsL_split]
 unfold flushesP
 by_cases h1 : cut ≤ ios.length
 ·rw [if_pos h1, List.take_append_of_le_length (by omega)]
  exact flushG_writes _ 0 fun x hx => iosW_kind ios x (List.mem_of_mem_take hx)
 ·rw [if_neg h1, List.take_append, List.take_of_length_le (by omega), flushG_append, hw, hl, List.nil_append, Nat.zero_add]
  rcases (by omega : cut = ios.length + 1 ∨ cut = ios.length + 2 ∨ cut = ios.length + 3) with rfl | rfl | rfl
  ·rw [if_pos (by omega), show ios.length + 1 - ios.length = 1 by omega]; rfl
  ·rw [if_pos (by omega), show ios.length + 2 - ios.length = 2 by omega]; rfl
  ·rw [if_neg (by omega), show ios.length + 3 - ios.length = 3 by omega]; rfl
theorem crash_steps {l : List UInt8} {x : Img} {cut : Nat} {keep : List Bool} (hd : Dev l) (hI : IsImg l x) (hF : Frees l x ios) (hs : s = x.sup) (hsl : slot = x.slot) (hc : cut ≤ ios.length + 3) :
  (cut ≤ ios.length + 2 ∧ ∀ a, reached l x a → blk (crashP l (stepsL s slot ios root size first) cut keep) a = blk l a) ∨
  (ios.length + 2 ≤ cut ∧ crashP l (stepsL s slot ios root size first) cut keep = applyP l (stepsL s slot ios root size first)) := by
 subst hs hsl
 have hnb2 : 2 ≤ nb l := by have := hd.nb; omega
 have hl := iosW_len ios
 have hfit := steps_fit (s := x.sup) (slot := x.slot) (root := root) (size := size) (first := first) hnb2 hF.fit
 have hfl := steps_flushes (s := x.sup) (slot := x.slot) (ios := ios) (root := root) (size := size) (first := first) cut hc
 have hkeep : ∀ sel : List IoV, (∀ y ∈ sel, y ∈ iosW ios) → ∀ a, reached l x a → blk (applyP l sel) a = blk l a := by
  intro sel hsel a ha
  refine applyP_keep sel l (fun y hy => ?_) ?_
  ·exact hfit y (by rw [stepsL_split]; exact List.mem_append_left _ (hsel y hy))
  ·intro y hy hk he
   obtain ⟨z, hz, rfl⟩ := List.mem_map.1 (hsel y hy)
   exact hF.free z hz (by rw [show z.at0 = a from he]; exact ha)
 rw [crashP_eq]
 by_cases h1 : cut ≤ ios.length + 1
 ·left
  refine ⟨by omega, hkeep _ fun y hy => ?_⟩
  obtain ⟨h2, h3⟩ := crashSel_mem _ _ _ y hy
  rw [stepsL_split, List.take_append] at h2
  rcases List.mem_append.1 h2 with h2 | h2
  ·exact List.mem_of_mem_take h2
  ·have h4 : y ∈ ([flushIo, wIo (1 - x.slot) (supB (nextS x.sup root size first)), flushIo]).take 1 := by
    have : cut - (iosW ios).length ≤ 1 := by omega
    exact (List.take_subset_take_left _ this) h2
   simp only [List.take_succ_cons, List.take_zero, List.mem_singleton] at h4
   subst h4
   exact absurd h3 (by decide)
 have htk : (stepsL x.sup x.slot ios root size first).take cut = iosW ios ++ ([flushIo, wIo (1 - x.slot) (supB (nextS x.sup root size first)), flushIo]).take (cut - ios.length) := by
  rw [stepsL_split, List.take_append, List.take_of_length_le (by omega), hl]
 unfold lastF
 rw [hfl, htk, if_neg (by omega)]
 have hap : applyP l (iosW ios ++ [wIo (1 - x.slot) (supB (nextS x.sup root size first))]) = applyP l (stepsL x.sup x.slot ios root size first) := by
  have e1 := applyP_skip l (iosW ios) [wIo (1 - x.slot) (supB (nextS x.sup root size first)), flushIo] flushIo (by decide)
  have e2 := applyP_skip l (iosW ios ++ [wIo (1 - x.slot) (supB (nextS x.sup root size first))]) [] flushIo (by decide)
  rw [List.append_assoc, List.append_nil] at e2
  rw [stepsL_split, e1, ← e2]; rfl
 rcases (by omega : cut = ios.length + 2 ∨ cut = ios.length + 3) with rfl | rfl
 ·rw [if_pos (by omega), show ios.length + 2 - ios.length = 2 by omega]
  show (_ ∧ ∀ a, reached l x a → blk (applyP l (crashSel ios.length keep (iosW ios ++ [flushIo, wIo (1 - x.slot) (supB (nextS x.sup root size first))]) 0 0)) a = blk l a) ∨ (_ ∧ applyP l (crashSel ios.length keep (iosW ios ++ [flushIo, wIo (1 - x.slot) (supB (nextS x.sup root size first))]) 0 0) = _)
  rw [crashSel_safe _ _ 0 0 (iosW_kind ios) (by omega), hl, Nat.zero_add]
  have e : crashSel ios.length keep [flushIo, wIo (1 - x.slot) (supB (nextS x.sup root size first))] ios.length 0 = if keep.getD 0 false = true then [wIo (1 - x.slot) (supB (nextS x.sup root size first))] else [] := by
   simp only [crashSel]
   rw [if_pos (by decide), if_neg (fun h => h rfl), if_neg (by omega)]
  rw [e]
  by_cases hk : keep.getD 0 false = true
  ·rw [if_pos hk]
   exact .inr ⟨by omega, hap⟩
  ·rw [if_neg hk, List.append_nil]
   exact .inl ⟨by omega, hkeep _ fun y hy => hy⟩
 ·rw [if_neg (by omega), show ios.length + 3 - ios.length = 3 by omega]
  right
  refine ⟨by omega, ?_⟩
  show applyP l (crashSel (ios.length + 2) keep (iosW ios ++ [flushIo, wIo (1 - x.slot) (supB (nextS x.sup root size first)), flushIo]) 0 0) = _
  rw [crashSel_safe _ _ 0 0 (iosW_kind ios) (by omega), hl, Nat.zero_add]
  have e : crashSel (ios.length + 2) keep [flushIo, wIo (1 - x.slot) (supB (nextS x.sup root size first)), flushIo] ios.length 0 = [wIo (1 - x.slot) (supB (nextS x.sup root size first))] := by
   simp only [crashSel]
   rw [if_pos (by decide), if_neg (fun h => h rfl), if_pos (by omega), if_pos (by decide)]
  rw [e]; exact hap
end
structure Opd (l : List UInt8) (ios : List IoV) (x x' : Img) : Prop where
 dev : Dev l
 img : IsImg l x
 img' : IsImg (applyP l ios) x'
 len : (applyP l ios).length = l.length
 right : stepsE l ios = 0
 steps : ∃ (io0 : List IoV) (root size first : Nat), ios = stepsL x.sup x.slot io0 root size first ∧ Frees l x io0
theorem opd_makes {l : List UInt8} {x x' : Img} {n k m : Nat} {first : Rec} {wth : Bool} {ios : List IoV} (hd : Dev l) (hI : IsImg l x) (hmk : makesP l x n first wth = .ok ios) (hm : Made l (applyP l ios) x x' k m) : Opd l ios x x' := by
 have hx := img_fit hd hI
 refine ⟨hd, hI, hm.img, hm.len, makes_right hd hx hmk, ?_⟩
 unfold makesP at hmk
 split at hmk
 ·cases hmk
 split at hmk
 ·cases hmk
 cases hmk
 exact ⟨_, _, _, _, rfl, frees_chain fun a ha => (mem_free hd hx).1 ha⟩
theorem opd_create {l : List UInt8} (hl : l.length < 1000000) {id : Int} {ios : List IoV} (h : createP l id = .ok ios) : ∃ x x', Opd l ios x x' := by
 obtain ⟨x, x', hd, hI, hc, hmk, hm, _⟩ := create_img hl h
 exact ⟨x, x', opd_makes hd hI hmk hm⟩
theorem opd_delete {l : List UInt8} (hl : l.length < 1000000) {id : Int} {ios : List IoV} (h : deleteP l id = .ok ios) : ∃ x x', Opd l ios x x' := by
 obtain ⟨x, x', j, hj, hd, hI, _, _, hmk, hm, _⟩ := delete_img hl h
 exact ⟨x, x', opd_makes hd hI hmk hm⟩
theorem opd_roll {l : List UInt8} (hl : l.length < 1000000) {id : Int} {ios : List IoV} (h : rollP l id = .ok (ios, 0)) : ∃ x x', Opd l ios x x' := by
 obtain ⟨x, x', j, hj, hw, hd, hI, _, _, hio, hI', hst, hlen, _⟩ := roll_img hl h
 have hF0 : Frees l x [] := ⟨(fun _ h => by cases h), (fun _ h => by cases h)⟩
 refine ⟨x, x', hd, hI, hI', hlen, ?_, [], _, _, _, hio, hF0⟩
 rw [hio]; exact steps_right hd hF0.fit
theorem Opd.states {l : List UInt8} {ios : List IoV} {x x' : Img} (h : Opd l ios x x') : statesP l ios = .ok [viewP l x, viewP (applyP l ios) x'] := by
 obtain ⟨io0, root, size, first, hio, hF⟩ := h.steps
 have hfl : flushesP ios = [io0.length, io0.length + 2] := by
  have := steps_flushes (s := x.sup) (slot := x.slot) (ios := io0) (root := root) (size := size) (first := first) (io0.length + 3) (Nat.le_refl _)
  rw [List.take_of_length_le (by rw [stepsL_len]; omega), ← hio] at this
  rw [this, if_neg (by omega), if_neg (by omega)]
 unfold statesP
 rw [if_neg (fun hh => hh h.right), (lookQ_iff h.dev.1).2 ⟨h.dev, h.img⟩, hfl]
 simp only [statesG]
 rw [if_pos (by decide), if_neg (by decide)]
 have hal : (ios.drop 0).take (io0.length + 2 + 1 - 0) = ios := by
  rw [List.drop_zero, Nat.sub_zero, List.take_of_length_le]
  rw [hio, stepsL_len]; omega
 have hl' : (applyP l ios).length < 1000000 := by rw [h.len]; exact h.dev.1
 rw [hal, (lookQ_iff hl').2 ⟨dev_of h.dev h.len, h.img'⟩]
 rfl
theorem Opd.crash {l : List UInt8} {ios : List IoV} {x x' : Img} (h : Opd l ios x x') {cut : Nat} (keep : List Bool) (hc : cut ≤ ios.length) :
  (crashP l ios cut keep).length = l.length ∧ ∃ xc, lookQ (crashP l ios cut keep) = .ok xc ∧ ((viewP (crashP l ios cut keep) xc = viewP l x ∧ (flushesP (ios.take cut)).length / 2 = 0) ∨ (viewP (crashP l ios cut keep) xc = viewP (applyP l ios) x' ∧ (flushesP (ios.take cut)).length / 2 ≤ 1 ∧ xc = x' ∧ crashP l ios cut keep = applyP l ios)) := by
 obtain ⟨io0, root, size, first, hio, hF⟩ := h.steps
 have hl' : (applyP l ios).length < 1000000 := by rw [h.len]; exact h.dev.1
 have hcl : cut ≤ io0.length + 3 := by rw [hio, stepsL_len] at hc; exact hc
 have hlen : (crashP l ios cut keep).length = l.length := crashP_len fun y hy => rightP_fit ((stepsE_ok h.right).2 y hy)
 have hfl := steps_flushes (s := x.sup) (slot := x.slot) (ios := io0) (root := root) (size := size) (first := first) cut hcl
 rw [← hio] at hfl
 refine ⟨hlen, ?_⟩
 rcases crash_steps (s := x.sup) (slot := x.slot) (ios := io0) (root := root) (size := size) (first := first) (keep := keep) h.dev h.img hF rfl rfl hcl with ⟨h1, h2⟩ | ⟨h1, h2⟩
 ·rw [← hio] at h2
  have hi := img_stay h.img hlen h2
  refine ⟨x, (lookQ_iff (by rw [hlen]; exact h.dev.1)).2 ⟨dev_of h.dev hlen, hi⟩, .inl ⟨viewP_stay h.img h2, ?_⟩⟩
  rw [hfl]
  by_cases h3 : cut ≤ io0.length
  ·rw [if_pos h3]; rfl
  ·rw [if_neg h3, if_pos h1]; simp
 ·rw [← hio] at h2
  rw [h2]
  refine ⟨x', (lookQ_iff hl').2 ⟨dev_of h.dev h.len, h.img'⟩, .inr ⟨rfl, ?_, rfl, rfl⟩⟩
  rw [hfl]
  split
  ·simp
  ·split <;> simp
end Go.Proofs.YtkaiiopoilpjeaaGreat
set_option linter.unusedSimpArgs false
set_option linter.unusedVariables false
set_option maxRecDepth 10000
set_option maxHeartbeats 16000000
namespace Go.Proofs.YtkaiiopoilpjeaaGreat
open Go.AI
theorem viewAv_gen (w : ViewV) : ∃ (f2 f3 : Bool) (s2 s3 : Nat), w.av = .agg [.islc false false 1 (w.head.map rowAv), .islc false f2 s2 (w.snaps.map SnapV.av), .islc false f3 s3 (w.opens.map SnapV.av)] := by
 obtain ⟨f2, s2, h2, _⟩ := snapsAvF w.snaps
 obtain ⟨f3, s3, h3, _⟩ := snapsAvF w.opens
 exact ⟨f2, f3, s2, s3, by unfold ViewV.av ViewV.cs rowsAv; rw [h2, h3]⟩
attribute [local irreducible] aops aexec acall aiter aop W WO
theorem c_holds (k : Nat) (hk : 1000500 ≤ k) (f : Bool) (l : List UInt8) (hl : l.length < 1000000) (t' f' : Bool) (ios : List IoV) (hil : ios.length < 100000) (hio : ∀ x ∈ ios, x.s = 1 ∨ x.data = []) (cut : Nat) (hcut : cut ≤ ios.length) (t3 f3 : Bool) (s3 : Nat) (keep : List Bool) (hs3 : s3 = 1 ∨ keep = []) (hkl : keep.length < 100000) (commits : Nat) (hcm : commits < 100000)
  {vs : List ViewV} (hvs : statesP l ios = .ok vs) (hvl : vs.length = commits + 1) (hvo : ∀ w ∈ vs, w.ok) (hst : stepsE l ios = 0) {xc : Img} (hxc : lookQ (crashP l ios cut keep) = .ok xc)
  (hd : vs[(flushesP (ios.take cut)).length / 2]? = some (viewP (crashP l ios cut keep) xc) ∨ vs[(flushesP (ios.take cut)).length / 2 + 1]? = some (viewP (crashP l ios cut keep) xc)) :
  FnV (CF k) n_law27_holds [.islc false f 1 (BL l), .islc t' f' 3 (ios.map IoV.av), .int .i64 cut, .islc t3 f3 s3 (keep.map AV.bool), .int .i64 commits] (.bool true) := by
 obtain ⟨k, rfl⟩ : ∃ j, k = j + 3 := ⟨k - 3, by omega⟩
 have pS := c_States (k + 2) (by omega) f l hl t' f' ios hil hio
 have pA := c_After (k + 2) (by omega) false f l hl t' f' 3 ios (.inl rfl) hil hio cut t3 f3 s3 keep hs3 hkl
 have pC := c_Crash (k + 2) (by omega) false f l hl t' f' 3 ios (.inl rfl) hil hio cut t3 f3 s3 keep hs3 hkl
 have hclen : (crashP l ios cut keep).length = l.length := crashP_len fun y hy => rightP_fit ((stepsE_ok hst).2 y hy)
 have pF := c_Sound (k + 2) (by omega) false (crashP l ios cut keep) (by rw [hclen]; exact hl)
 obtain ⟨hdx, hxf⟩ := lookQ_ok (by rw [hclen]; exact hl) hxc
 have hwo := viewP_ok hdx hxf
 rw [hvs] at pS
 unfold stAv at pS
 unfold afterAv at pA
 unfold crashAv at pC
 unfold soundP at pF
 rw [if_neg (fun h => h hst), if_neg (by omega), Int.toNat_natCast] at pA pC
 rw [hxc] at pA pF
 unfold viewQ at pA
 simp only at pA pS pF
 obtain ⟨w, hw⟩ : ∃ w, w = viewP (crashP l ios cut keep) xc := ⟨_, rfl⟩
 rw [← hw] at pA hd hwo
 obtain ⟨g2, g3, r2, r3, hwa⟩ := viewAv_gen w
 have pA' : FnV (CF (k + 2)) n_crash_After [.islc false f 1 (BL l), .islc t' f' 3 (ios.map IoV.av), .int .i64 cut, .islc t3 f3 s3 (keep.map AV.bool)] (.tup [.agg [.islc false false 1 (w.head.map rowAv), .islc false g2 r2 (w.snaps.map SnapV.av), .islc false g3 r3 (w.opens.map SnapV.av)], .int .i64 0]) := by
  rw [← hwa]; exact pA
 have hml : (ios.map IoV.av).length = ios.length := List.length_map _
 have hvm : (vs.map ViewV.av).length = vs.length := List.length_map _
 have hsl : ((ios.map IoV.av).drop 0).take (cut - 0) = (ios.take cut).map IoV.av := by rw [List.drop_zero, Nat.sub_zero, List.map_take]
 have pL := c_Flushes (k + 2) (by omega) t' (f' && decide (cut = ios.length)) 3 (ios.take cut) (.inl rfl) (by rw [List.length_take]; omega)
 obtain ⟨F, hF⟩ : ∃ F, F = flushesP (ios.take cut) := ⟨_, rfl⟩
 have hFl : F.length ≤ cut := by rw [hF]; exact Nat.le_trans (flushes_len _) (by rw [List.length_take]; omega)
 rw [← hF] at pL hd
 have hfn : (NL F).length = F.length := NL_len F
 have hfz : ∀ H : Heap, [AV.islc t' (f' && decide (cut = ios.length)) 3 (((ios.map IoV.av).drop 0).take (cut - 0))].map (fz false 6 H) = [.islc t' (f' && decide (cut = ios.length)) 3 ((ios.take cut).map IoV.av)] := fun H => by rw [hsl]; rfl
 obtain ⟨d, hdd⟩ : ∃ d, d = F.length / 2 := ⟨_, rfl⟩
 rw [← hdd] at hd
 have hdl : d < vs.length := by
  rcases hd with h | h
  ·exact (List.getElem?_eq_some_iff.1 h).1
  ·have := (List.getElem?_eq_some_iff.1 h).1; omega
 have hdd' : (F.length : Int) / 2 = (d : Int) := by omega
 generalize hcp : crashP l ios cut keep = lc at *
 refine fnk (by omega) B_law27_holds rfl ?_
 rw [show k + 3 - 1 = k + 2 from rfl]
 unfold law27_holds
 repeat' (first
  | refine qS ?_ | refine qN ?_ | refine q_call pS ?_ | refine q_call pA' ?_ | refine q_call pC ?_ | refine q_call pF ?_ | refine q_box ?_ (hl := by kernel_rfl)
  | refine wo_lenG (n := vs.length) rfl hvm rfl rfl ?_ | refine wo_sliceG (n := ios.length) (a := 0) (b := cut) rfl (.inl rfl) hml rfl (optNn rfl) (by omega) hcut rfl rfl ?_
  | refine q_call pL ?_ rfl (by exact hfz _) | refine wo_lenG (n := F.length) rfl hfn rfl rfl ?_ | (rw [hdd']) | refine qQ ?_ | fail)
 refine w_iter0 ?_
 refine w_iter1 ?_
 obtain ⟨u, hu⟩ : ∃ u, u = vs[d] := ⟨_, rfl⟩
 have hum : u ∈ vs := by rw [hu]; exact List.getElem_mem hdl
 obtain ⟨a2, a3, b2, b3, hua⟩ := viewAv_gen u
 have he1 : (vs.map ViewV.av)[(d : Int).toNat]? = some (.agg [.islc false false 1 (u.head.map rowAv), .islc false a2 b2 (u.snaps.map SnapV.av), .islc false a3 b3 (u.opens.map SnapV.av)]) := by
  rw [Int.toNat_natCast, List.getElem?_map, List.getElem?_eq_getElem hdl, ← hu, ← hua]; rfl
 have hV1 := c_View (k + 2) (by omega) w u hwo (hvo u hum)
 rw [hwa, hua] at hV1
 by_cases hwu : w = u
 ·rw [decide_eq_true hwu] at hV1
  repeat' (first | refine qS ?_ | refine qN ?_ | refine wo_lenG (n := vs.length) rfl hvm rfl rfl ?_ | refine wo_atG rfl rfl (by omega) he1 rfl rfl ?_ | refine q_call hV1 ?_ | refine qQa ?_ | fail)
  exact ⟨Or.inr rfl, _, rfl, rfl⟩
 rw [decide_eq_false hwu] at hV1
 have hd2 : vs[d + 1]? = some w := hd.resolve_left fun h => by
  rw [List.getElem?_eq_getElem hdl, ← hu] at h
  exact hwu (Option.some.inj h).symm
 have hdl2 : d + 1 < vs.length := (List.getElem?_eq_some_iff.1 hd2).1
 have he2 : (vs.map ViewV.av)[((d : Int) + 1).toNat]? = some (.agg [.islc false false 1 (w.head.map rowAv), .islc false g2 r2 (w.snaps.map SnapV.av), .islc false g3 r3 (w.opens.map SnapV.av)]) := by
  rw [show ((d : Int) + 1).toNat = d + 1 by omega, List.getElem?_map, hd2, ← hwa]; rfl
 have hV2 := c_View (k + 2) (by omega) w w hwo hwo
 rw [decide_eq_true rfl, hwa] at hV2
 repeat' (first | refine qS ?_ | refine qN ?_ | refine wo_lenG (n := vs.length) rfl hvm rfl rfl ?_ | refine wo_atG rfl rfl (by omega) he1 rfl rfl ?_ | refine q_call hV1 ?_ | refine qQa ?_ | fail)
 refine w_iter1 ?_
 repeat' (first | refine qS ?_ | refine qN ?_ | refine wo_lenG (n := vs.length) rfl hvm rfl rfl ?_ | refine wo_atG rfl rfl (by omega) he2 rfl rfl ?_ | refine q_call hV2 ?_ | refine qQa ?_ | fail)
 exact ⟨Or.inr rfl, _, rfl, rfl⟩
def wk27 : Bool :=
 (match lookQ (crashP wk0 wkA 4 []) with | .ok x => Nat.beq (viewP (crashP wk0 wkA 4 []) x).snaps.length 1 | .error _ => false) &&
 (match lookQ (crashP wk0 wkA 3 []) with | .ok x => Nat.beq (viewP (crashP wk0 wkA 3 []) x).snaps.length 0 | .error _ => false) &&
 (match statesP wk0 wkA with | .ok [_, b] => Nat.beq b.snaps.length 1 | _ => false) && Nat.beq ((flushesP wkA).length / 2) 1
theorem wk27_true : wk27 = true := by kernel_rfl
theorem c_wakes27 (k : Nat) (hk : 1000500 ≤ k) : FnV (CF k) n_law27_wakes [] (.bool true) := by
 have h := wkOk_true
 have h27 := wk27_true
 unfold wk27 at h27
 unfold wkOk at h
 simp only [Bool.and_eq_true] at h h27
 obtain ⟨⟨⟨⟨⟨⟨h1, h2⟩, h3⟩, _⟩, _⟩, _⟩, _⟩ := h
 obtain ⟨⟨⟨d1, d2⟩, d3⟩, d4⟩ := h27
 have hl0 : wk0.length < 1000000 := by
  show (newP 16).length < _
  unfold newP
  rw [List.length_append, supB_len]; simp
 have c1 : createP wk0 5 = .ok wkA := by
  unfold wkA
  cases hc : createP wk0 5 with
  | ok a => rfl
  | error e => rw [hc] at h1; cases h1
 have c2 : wkA.length = 4 := Nat.eq_of_beq_eq_true h2
 have c3 : stepsE wk0 wkA = 0 := Nat.eq_of_beq_eq_true h3
 have ha := createP_ok hl0 c1
 obtain ⟨w1, e1, f1⟩ : ∃ w : ViewV, viewQ (crashP wk0 wkA 4 []) (lookQ (crashP wk0 wkA 4 [])) = .tup [w.av, .int .i64 0] ∧ w.snaps.length = 1 := by
  cases hc : lookQ (crashP wk0 wkA 4 []) with
  | error e => rw [hc] at d1; cases d1
  | ok x => rw [hc] at d1; exact ⟨_, rfl, Nat.eq_of_beq_eq_true d1⟩
 obtain ⟨w2, e2, f2⟩ : ∃ w : ViewV, viewQ (crashP wk0 wkA 3 []) (lookQ (crashP wk0 wkA 3 [])) = .tup [w.av, .int .i64 0] ∧ w.snaps.length = 0 := by
  cases hc : lookQ (crashP wk0 wkA 3 []) with
  | error e => rw [hc] at d2; cases d2
  | ok x => rw [hc] at d2; exact ⟨_, rfl, Nat.eq_of_beq_eq_true d2⟩
 obtain ⟨w3, w4, e3, f3⟩ : ∃ w w' : ViewV, statesP wk0 wkA = .ok [w, w'] ∧ w'.snaps.length = 1 := by
  cases hc : statesP wk0 wkA with
  | error e => rw [hc] at d3; cases d3
  | ok vs =>
   rw [hc] at d3
   match vs, d3 with
   | [a, b], d3 => exact ⟨a, b, rfl, Nat.eq_of_beq_eq_true d3⟩
 have f4 : (flushesP wkA).length / 2 = 1 := Nat.eq_of_beq_eq_true d4
 have hN : FnV (CF (k - 1)) n_open_New [.int .i64 16] (.tup [.islc false false 1 (BL wk0), .int .i64 0]) := c_New (k - 1) (by omega) 16 (by decide)
 have hC0 : FnV (CF (k - 1)) n_snap_Create [.islc false false 1 (BL wk0), .int .i64 5] (.tup [.islc false false 3 (wkA.map IoV.av), .int .i64 0]) := by
  have := c_Create (k - 1) (by omega) false wk0 hl0 5
  rwa [c1] at this
 have pA1 := c_After (k - 1) (by omega) false false wk0 hl0 false false 3 wkA (.inl rfl) ha.1 (fun x hx => (ha.2 x hx).1) (4 : Nat) false true 0 [] (.inr rfl) (by decide)
 have pA2 := c_After (k - 1) (by omega) false false wk0 hl0 false false 3 wkA (.inl rfl) ha.1 (fun x hx => (ha.2 x hx).1) (3 : Nat) false true 0 [] (.inr rfl) (by decide)
 have pS := c_States (k - 1) (by omega) false wk0 hl0 false false wkA ha.1 (fun x hx => (ha.2 x hx).1)
 have pC := c_Commits (k - 1) (by omega) false false 3 wkA (.inl rfl) ha.1
 rw [f4] at pC
 rw [e3] at pS
 unfold afterAv at pA1 pA2
 rw [if_neg (fun h => h c3), if_neg (by rw [c2]; omega), Int.toNat_natCast] at pA1 pA2
 rw [e1] at pA1
 rw [e2] at pA2
 unfold stAv at pS
 simp only at pS
 obtain ⟨p2, p3, q2, q3, hw1⟩ := viewAv_gen w1
 obtain ⟨r2, r3, s2, s3, hw2⟩ := viewAv_gen w2
 obtain ⟨t2, t3, u2, u3, hw4⟩ := viewAv_gen w4
 rw [hw1] at pA1
 rw [hw2] at pA2
 have hla : (wkA.map IoV.av).length = 4 := by simpa using c2
 have g1 : (w1.snaps.map SnapV.av).length = 1 := by simpa using f1
 have g2 : (w2.snaps.map SnapV.av).length = 0 := by simpa using f2
 have g4 : (w4.snaps.map SnapV.av).length = 1 := by simpa using f3
 have hel : ([w3, w4].map ViewV.av)[(1 : Int).toNat]? = some (.agg [.islc false false 1 (w4.head.map rowAv), .islc false t2 u2 (w4.snaps.map SnapV.av), .islc false t3 u3 (w4.opens.map SnapV.av)]) := by
  rw [← hw4]; rfl
 generalize wkA = a at *
 generalize wk0 = l0 at *
 refine fnk (by omega) B_law27_wakes rfl ?_
 unfold law27_wakes
 repeat' (first
  | refine qS ?_ | refine qN ?_ | refine q_call hN ?_ | refine q_call hC0 ?_ | refine q_call pA1 ?_ | refine q_call pA2 ?_ | refine q_call pS ?_ | refine q_call pC ?_
  | refine q_box ?_ (hl := by kernel_rfl) | refine wo_lenG (n := 4) rfl hla rfl rfl ?_ | refine wo_lenG (n := 1) rfl g1 rfl rfl ?_ | refine wo_lenG (n := 0) rfl g2 rfl rfl ?_
  | refine wo_lenG (n := 1) rfl g4 rfl rfl ?_ | refine wo_lenG (n := 2) rfl rfl rfl rfl ?_ | refine wo_atG rfl rfl (by decide) hel rfl rfl ?_ | refine qQba ?_ | fail)
 exact ⟨Or.inr rfl, _, rfl, rfl⟩
theorem modN (cut : Int) (n : Nat) (hn : 0 < n) : ∃ c : Nat, cut % 18446744073709551616 % (n : Int) = (c : Int) ∧ c < n := by
 have h1 := Int.emod_lt_of_pos (cut % 18446744073709551616) (show (0 : Int) < (n : Int) by omega)
 have h2 := Int.emod_nonneg (cut % 18446744073709551616) (show (n : Int) ≠ 0 by omega)
 exact ⟨(cut % 18446744073709551616 % (n : Int)).toNat, by omega, by omega⟩
theorem opd_holds (k : Nat) (hk : 1000500 ≤ k) (f : Bool) {l : List UInt8} {ios : List IoV} {x x' : Img} (h : Opd l ios x x') (hok : IosOk ios) (t' f' : Bool) (cut : Nat) (hcut : cut ≤ ios.length) (t3 f3 : Bool) (s3 : Nat) (keep : List Bool) (hs3 : s3 = 1 ∨ keep = []) (hkl : keep.length < 100000) :
  FnV (CF k) n_law27_holds [.islc false f 1 (BL l), .islc t' f' 3 (ios.map IoV.av), .int .i64 cut, .islc t3 f3 s3 (keep.map AV.bool), .int .i64 1] (.bool true) := by
 obtain ⟨hlen, xc, hxc, hv⟩ := h.crash keep hcut
 have hx := img_fit h.dev h.img
 have hx' := img_fit (dev_of h.dev h.len) h.img'
 refine c_holds k hk f l h.dev.1 t' f' ios hok.1 (fun y hy => (hok.2 y hy).1) cut hcut t3 f3 s3 keep hs3 hkl 1 (by decide) h.states rfl ?_ h.right hxc ?_
 ·intro w hw
  simp only [List.mem_cons, List.not_mem_nil, or_false] at hw
  rcases hw with rfl | rfl
  ·exact viewP_ok h.dev hx
  ·exact viewP_ok (dev_of h.dev h.len) hx'
 ·rcases hv with ⟨h1, h2⟩ | ⟨h1, h2, _⟩
  ·rw [h1, h2]; exact .inl rfl
  ·rw [h1]
   rcases (by omega : (flushesP (ios.take cut)).length / 2 = 0 ∨ (flushesP (ios.take cut)).length / 2 = 1) with h3 | h3
   ·rw [h3]; exact .inr rfl
   ·rw [h3]; exact .inl rfl
theorem law_CrashSnap (l : List UInt8) (hm : l.length ≤ maxLen) (kind id cut : Int) (keep : List Bool) (hkm : keep.length ≤ maxLen) : ∃ H, CF 1000700 n_law27_CrashSnap 0 [.islc false false 1 (BL l), .int .i64 kind, .int .i64 id, .int .i64 cut, .islc false false 1 (keep.map AV.bool)] Heap.none = some (.bool true, H) := by
 suffices h : FnV (CF 1000700) n_law27_CrashSnap [.islc false false 1 (BL l), .int .i64 kind, .int .i64 id, .int .i64 cut, .islc false false 1 (keep.map AV.bool)] (.bool true) by
  obtain ⟨u, H, h1, h2⟩ := h
  refine ⟨H, ?_⟩
  rw [h1, fz_true h2]
 have hH := c_Heavy0 (1000700 - 1) (by omega) false false l
 have hW := c_wakes27 (1000700 - 1) (by omega)
 have hkl : (keep.map AV.bool).length = keep.length := List.length_map _
 by_cases hl1 : l.length > 19200
 ·rw [decide_eq_true hl1] at hH
  refine fnk (by omega) B_law27_CrashSnap rfl ?_
  unfold law27_CrashSnap
  repeat' (first | refine qS ?_ | refine qN ?_ | refine q_call hH ?_ | refine qQ ?_ | fail)
  exact ⟨Or.inr rfl, _, rfl, rfl⟩
 rw [decide_eq_false hl1] at hH
 have hl : l.length < 1000000 := by omega
 by_cases hk1 : keep.length > 200
 ·have hk1' : (keep.length : Int) > 200 := by omega
  refine fnk (by omega) B_law27_CrashSnap rfl ?_
  unfold law27_CrashSnap
  repeat' (first | refine qS ?_ | refine qN ?_ | refine q_call hH ?_ | refine wo_lenG (n := keep.length) rfl hkl rfl rfl ?_ | refine qQ ?_ | fail)
  exact ⟨Or.inr rfl, _, rfl, rfl⟩
 have hk1' : ¬ (keep.length : Int) > 200 := by omega
 have pC := c_Create (1000700 - 1) (by omega) false l hl id
 have pD := c_Delete (1000700 - 1) (by omega) false l hl id
 have pR := c_Rollback (1000700 - 1) (by omega) false l hl id
 have hop : ∃ (m : Int) (n : Nat) (f : Bool) (s : Nat) (ios : List IoV) (e : Nat), kind % 18446744073709551616 % 3 = m ∧ ((m = 0 ∧ n = n_snap_Create) ∨ (m = 1 ∧ n = n_snap_Delete) ∨ (m = 2 ∧ n = n_snap_Rollback)) ∧
   FnV (CF (1000700 - 1)) n [.islc false false 1 (BL l), .int .i64 id] (.tup [.islc false f s (ios.map IoV.av), .int .i64 e]) ∧ ((e ≠ 0 ∧ ios = []) ∨ (e = 0 ∧ s = 3 ∧ IosOk ios ∧ ∃ x x', Opd l ios x x')) := by
  rcases (by omega : kind % 18446744073709551616 % 3 = 0 ∨ kind % 18446744073709551616 % 3 = 1 ∨ kind % 18446744073709551616 % 3 = 2) with hm3 | hm3 | hm3
  ·cases h : createP l id with
   | error e => rw [h] at pC; exact ⟨_, _, true, 0, [], e, hm3, .inl ⟨rfl, rfl⟩, pC, .inl ⟨createP_err h, rfl⟩⟩
   | ok ios => rw [h] at pC; exact ⟨_, _, false, 3, ios, 0, hm3, .inl ⟨rfl, rfl⟩, pC, .inr ⟨rfl, rfl, createP_ok hl h, opd_create hl h⟩⟩
  ·cases h : deleteP l id with
   | error e => rw [h] at pD; exact ⟨_, _, true, 0, [], e, hm3, .inr (.inl ⟨rfl, rfl⟩), pD, .inl ⟨deleteP_err h, rfl⟩⟩
   | ok ios => rw [h] at pD; exact ⟨_, _, false, 3, ios, 0, hm3, .inr (.inl ⟨rfl, rfl⟩), pD, .inr ⟨rfl, rfl, deleteP_ok hl h, opd_delete hl h⟩⟩
  ·cases h : rollP l id with
   | error e => rw [h] at pR; exact ⟨_, _, true, 0, [], e, hm3, .inr (.inr ⟨rfl, rfl⟩), pR, .inl ⟨rollP_err h, rfl⟩⟩
   | ok p =>
    obtain ⟨ios, e⟩ := p
    rw [h] at pR
    have hro := rollP_ok h
    by_cases he : e = 0
    ·subst he
     exact ⟨_, _, false, 3, ios, 0, hm3, .inr (.inr ⟨rfl, rfl⟩), pR, .inr ⟨rfl, rfl, hro.1, opd_roll hl h⟩⟩
    ·exact ⟨_, _, false, 3, ios, e, hm3, .inr (.inr ⟨rfl, rfl⟩), pR, .inl ⟨he, hro.2 he⟩⟩
 obtain ⟨m, n, f, s, ios, e, hm3, hn, pO, hfacts⟩ := hop
 rcases hfacts with ⟨he, rfl⟩ | ⟨rfl, rfl, hok, x, x', hO⟩
 ·have he' : (e : Int) ≠ 0 := by omega
  rcases hn with ⟨rfl, rfl⟩ | ⟨rfl, rfl⟩ | ⟨rfl, rfl⟩
  all_goals
   refine fnk (by omega) B_law27_CrashSnap rfl ?_
   unfold law27_CrashSnap
   repeat' (first
    | refine qS ?_ | refine qN ?_ | refine q_call hH ?_ | refine wo_lenG (n := keep.length) rfl hkl rfl rfl ?_ | refine q_call pO ?_ | refine q_call hW ?_
    | refine wo_lenG (n := 0) rfl rfl rfl rfl ?_ | (rw [hm3]) | refine qQ ?_ | fail)
  all_goals exact ⟨Or.inr rfl, _, rfl, rfl⟩
 ·have hml : (ios.map IoV.av).length = ios.length := List.length_map _
  have hil := hok.1
  obtain ⟨c, hc, hcl⟩ := modN cut (ios.length + 1) (by omega)
  have hc' : cut % 18446744073709551616 % ((ios.length : Int) + 1) = (c : Int) := hc
  have pH := opd_holds (1000700 - 1) (by omega) false hO hok false f c (by omega) false false 1 keep (.inl rfl) (by omega)
  rcases hn with ⟨rfl, rfl⟩ | ⟨rfl, rfl⟩ | ⟨rfl, rfl⟩
  all_goals
   refine fnk (by omega) B_law27_CrashSnap rfl ?_
   unfold law27_CrashSnap
   repeat' (first
    | refine qS ?_ | refine qN ?_ | refine q_call hH ?_ | refine wo_lenG (n := keep.length) rfl hkl rfl rfl ?_ | refine q_call pO ?_ | refine q_call hW ?_ | refine q_call pH ?_
    | refine wo_lenG (n := ios.length) rfl hml rfl rfl ?_ | (rw [hm3]) | (rw [hc']) | refine qQ ?_ | fail)
  all_goals exact ⟨Or.inr rfl, _, rfl, rfl⟩
end Go.Proofs.YtkaiiopoilpjeaaGreat
