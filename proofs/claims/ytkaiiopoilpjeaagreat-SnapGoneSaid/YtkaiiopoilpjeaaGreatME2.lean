/- Lemmas. -/
import Derived.Test.YtkaiiopoilpjeaaGreatME1
import Derived.Test.YtkaiiopoilpjeaaGreatMD1
import Derived.Test.YtkaiiopoilpjeaaGreatMJ4
import Derived.Test.YtkaiiopoilpjeaaGreatMN
import Derived.Test.YtkaiiopoilpjeaaGreatMD2
set_option linter.unusedSimpArgs false
set_option linter.unusedVariables false
set_option maxRecDepth 10000
set_option maxHeartbeats 16000000
namespace Go.Proofs.YtkaiiopoilpjeaaGreat
open Go.AI
def rowsOk (r : List (List UInt8)) : Prop := r.length < 1000000 ∧ ∀ x ∈ r, x.length < 1000000
def ViewV.ok (v : ViewV) : Prop := rowsOk v.head ∧ (v.snaps.length < 1000000 ∧ ∀ s ∈ v.snaps, rowsOk s.sectors) ∧ v.opens.length < 1000000 ∧ ∀ s ∈ v.opens, rowsOk s.sectors
instance : DecidableEq SnapV := fun ⟨a, b, c, d, e⟩ ⟨a', b', c', d', e'⟩ => decidable_of_iff (a = a' ∧ b = b' ∧ c = c' ∧ d = d' ∧ e = e') (by simp)
instance : DecidableEq ViewV := fun ⟨a, b, c⟩ ⟨a', b', c'⟩ => decidable_of_iff (a = a' ∧ b = b' ∧ c = c') (by simp)
def ViewV.av (v : ViewV) : AV := .agg v.cs
attribute [local irreducible] aops aexec acall aiter aop W WO
theorem keep_Rows_loop {k : Nat} {H : Heap} {T : Tmps} {t f t' f' : Bool} {s s' : Nat} {a b : List (List UInt8)} (ha : a.length < 1000000) (hs : s = 1 ∨ a = []) (hs' : s' = 1 ∨ b = []) (hl : a.length = b.length) (hwa : ∀ x ∈ a, x.length < 1000000) (hwb : ∀ x ∈ b, x.length < 1000000) (hk : 1000010 ≤ k)
  (hT : Has T [(0, .islc t f s (a.map rowAv)), (1, .islc t' f' s' (b.map rowAv)), (5, .int .i64 0)]) :
  W (aexec (CF k) noX 0 k (.loop keep_Rows_l0) T H) (fun ex T' H' => (ex = .exit 0 ∧ a = b) ∨ (ex = .ret ∧ T' 4 = .bool false ∧ a ≠ b)) := by
 refine w_for a.length (fun i T' H' => a.take i = b.take i ∧ Has T' [(0, .islc t f s (a.map rowAv)), (1, .islc t' f' s' (b.map rowAv)), (5, .int .i64 (i : Nat))]) ⟨rfl, hT⟩ (by omega) ?_
 rintro i T H2 hi ⟨he, hT⟩
 rw [hT.eq]
 simp only [over]
 unfold keep_Rows_l0
 have hml : (a.map rowAv).length = a.length := List.length_map _
 by_cases hlt : i < a.length
 ·obtain rfl : s = 1 := hs.resolve_right (fun h => by rw [h] at hlt; simp at hlt)
  have hbl : i < b.length := by omega
  obtain rfl : s' = 1 := hs'.resolve_right (fun h => by rw [h] at hbl; simp at hbl)
  obtain ⟨x, hx⟩ : ∃ x, x = a[i] := ⟨_, rfl⟩
  obtain ⟨y, hy⟩ : ∃ y, y = b[i] := ⟨_, rfl⟩
  have hxw := hwa a[i] (List.getElem_mem hlt)
  have hyw := hwb b[i] (List.getElem_mem hbl)
  rw [← hx] at hxw
  rw [← hy] at hyw
  have hby := c_Bytes k (by omega) false false false false 1 1 x y hxw hyw (.inl rfl) (.inl rfl)
  have hst : a.take (i + 1) = b.take (i + 1) ↔ x = y := by
   rw [List.take_succ_eq_append_getElem hlt, List.take_succ_eq_append_getElem hbl, ← hx, ← hy, he]
   simp
  have hex : (a.map rowAv)[(i : Int).toNat]? = some (rowAv x) := by
   rw [Int.toNat_natCast, List.getElem?_map, List.getElem?_eq_getElem hlt, ← hx]; rfl
  have hey : (b.map rowAv)[(i : Int).toNat]? = some (rowAv y) := by
   rw [Int.toNat_natCast, List.getElem?_map, List.getElem?_eq_getElem hbl, ← hy]; rfl
  rw [show rowAv x = .islc false false 1 (BL x) from rfl] at hex
  rw [show rowAv y = .islc false false 1 (BL y) from rfl] at hey
  by_cases hxy : x = y
  ·rw [decide_eq_true hxy] at hby
   repeat' (first
    | refine qS ?_ | refine wo_lenG (n := a.length) rfl hml rfl rfl ?_ | refine wo_atG rfl rfl (by omega) hex rfl rfl ?_ | refine wo_atG rfl rfl (by omega) hey rfl rfl ?_
    | refine q_call hby ?_ | refine qQba ?_ | refine q_cmp2 (fun _ => ?_) (fun _ => ?_))
   exact ⟨hlt, hst.2 hxy, rfl, rfl, by show AV.int _ _ = AV.int _ _; congr 1, trivial⟩
  ·rw [decide_eq_false hxy] at hby
   repeat' (first
    | refine qS ?_ | refine wo_lenG (n := a.length) rfl hml rfl rfl ?_ | refine wo_atG rfl rfl (by omega) hex rfl rfl ?_ | refine wo_atG rfl rfl (by omega) hey rfl rfl ?_
    | refine q_call hby ?_ | refine qQba ?_ | refine q_cmp2 (fun _ => ?_) (fun _ => ?_))
   exact .inr ⟨rfl, rfl, fun h => hxy (hst.1 (by rw [h]))⟩
 ·skip
  repeat' (first | refine qS ?_ | refine wo_lenG (n := a.length) rfl hml rfl rfl ?_ | refine qQba ?_ | refine q_cmp2 (fun _ => ?_) (fun _ => ?_))
  have h1 := List.take_of_length_le (l := a) (i := i) (by omega)
  have h2 := List.take_of_length_le (l := b) (i := i) (by omega)
  exact .inl ⟨rfl, by rw [← h1, ← h2]; exact he⟩
theorem c_keep_Rows (k : Nat) (hk : 1000010 + 1 ≤ k) (t f t' f' : Bool) (s s' : Nat) (a b : List (List UInt8)) (ha : a.length < 1000000) (hb : b.length < 1000000) (hs : s = 1 ∨ a = []) (hs' : s' = 1 ∨ b = []) (hwa : ∀ x ∈ a, x.length < 1000000) (hwb : ∀ x ∈ b, x.length < 1000000) :
  FnV (CF k) n_keep_Rows [.islc t f s (a.map rowAv), .islc t' f' s' (b.map rowAv)] (.bool (decide (a = b))) := by
 refine fnk (by omega) B_keep_Rows rfl ?_
 unfold keep_Rows
 have hma : (a.map rowAv).length = a.length := List.length_map _
 have hmb : (b.map rowAv).length = b.length := List.length_map _
 by_cases hl : a.length = b.length
 ·have hl' : (a.length : Int) = (b.length : Int) := by omega
  repeat' (first | refine qS ?_ | refine wo_lenG (n := a.length) rfl hma rfl rfl ?_ | refine wo_lenG (n := b.length) rfl hmb rfl rfl ?_ | refine qQb ?_ | refine q_cmp2 (fun _ => ?_) (fun _ => ?_))
  refine W.mono (keep_Rows_loop (k := k - 1) (a := a) (b := b) (t := t) (f := f) (t' := t') (f' := f') (s := s) (s' := s') ha hs hs' hl hwa hwb (by omega) ⟨rfl, rfl, rfl, trivial⟩) ?_
  rintro ex T2 H2 (⟨rfl, he⟩ | ⟨rfl, h4, he⟩)
  ·rw [decide_eq_true he]
   show W _ _
   repeat' (first | refine qQb ?_ | refine q_cmp2 (fun _ => ?_) (fun _ => ?_))
   exact ⟨Or.inr rfl, _, rfl, rfl⟩
  ·rw [decide_eq_false he]
   refine ⟨Or.inr rfl, .bool false, ?_, rfl⟩
   show aresults T2 H2 [.tmp 4] = _
   simp only [aresults, ares, List.mapM_cons, List.mapM_nil, h4]; rfl
 ·have hl' : (a.length : Int) ≠ (b.length : Int) := by omega
  have hne : a ≠ b := fun h => hl (by rw [h])
  rw [decide_eq_false hne]
  repeat' (first | refine qS ?_ | refine wo_lenG (n := a.length) rfl hma rfl rfl ?_ | refine wo_lenG (n := b.length) rfl hmb rfl rfl ?_ | refine qQb ?_ | refine q_cmp2 (fun _ => ?_) (fun _ => ?_))
  exact ⟨Or.inr rfl, _, rfl, rfl⟩
theorem c_Snap (k : Nat) (hk : 1000020 ≤ k) (x y : SnapV) (hx : rowsOk x.sectors) (hy : rowsOk y.sectors) : FnV (CF k) n_keep_Snap [x.av, y.av] (.bool (decide (x = y))) := by
 have hr := c_keep_Rows (k - 1) (by omega) false false false false 1 1 x.sectors y.sectors hx.1 hy.1 (.inl rfl) (.inl rfl) hx.2 hy.2
 obtain ⟨a1, a2, a3, a4, a5⟩ := x
 obtain ⟨b1, b2, b3, b4, b5⟩ := y
 unfold SnapV.av rowsAv
 simp only at hr ⊢
 refine fnk (by omega) B_keep_Snap rfl ?_
 unfold keep_Snap
 by_cases h1 : a1 = b1
 rotate_left 1
 ·have h1' : (a1 : Int) ≠ b1 := by omega
  rw [decide_eq_false (by simp [h1])]
  repeat' (first | refine qS ?_ | refine qN ?_ | refine qQb ?_ | fail)
  exact ⟨Or.inr rfl, _, rfl, rfl⟩
 have h1' : (a1 : Int) = b1 := by omega
 by_cases h2 : a2 = b2
 rotate_left 1
 ·have h2' : (a2 : Int) ≠ b2 := by omega
  rw [decide_eq_false (by simp [h2])]
  repeat' (first | refine qS ?_ | refine qN ?_ | refine qQb ?_ | fail)
  exact ⟨Or.inr rfl, _, rfl, rfl⟩
 have h2' : (a2 : Int) = b2 := by omega
 by_cases h4 : a4 = b4
 rotate_left 1
 ·have h4' : (a4 : Int) ≠ b4 := by omega
  rw [decide_eq_false (by simp [h4])]
  repeat' (first | refine qS ?_ | refine qN ?_ | refine qQb ?_ | fail)
  exact ⟨Or.inr rfl, _, rfl, rfl⟩
 have h4' : (a4 : Int) = b4 := by omega
 by_cases h5 : a5 = b5
 rotate_left 1
 ·have h5' : (a5 : Int) ≠ b5 := by omega
  rw [decide_eq_false (by simp [h5])]
  repeat' (first | refine qS ?_ | refine qN ?_ | refine qQb ?_ | fail)
  exact ⟨Or.inr rfl, _, rfl, rfl⟩
 have h5' : (a5 : Int) = b5 := by omega
 have he : decide ((⟨a1, a2, a3, a4, a5⟩ : SnapV) = ⟨b1, b2, b3, b4, b5⟩) = decide (a3 = b3) := by
  simp [h1, h2, h4, h5]
 rw [he]
 cases hd : decide (a3 = b3) <;> rw [hd] at hr
 all_goals
  repeat' (first | refine qS ?_ | refine qN ?_ | refine q_call hr ?_ | refine qQb ?_ | fail)
 all_goals exact ⟨Or.inr rfl, _, rfl, rfl⟩
theorem keep_Snaps_loop {k : Nat} {H : Heap} {T : Tmps} {t f t' f' : Bool} {s s' : Nat} {a b : List SnapV} (ha : a.length < 1000000) (hs : s = 5 ∨ a = []) (hs' : s' = 5 ∨ b = []) (hl : a.length = b.length) (hwa : ∀ x ∈ a, rowsOk x.sectors) (hwb : ∀ x ∈ b, rowsOk x.sectors) (hk : 1000030 ≤ k)
  (hT : Has T [(0, .islc t f s (a.map SnapV.av)), (1, .islc t' f' s' (b.map SnapV.av)), (5, .int .i64 0)]) :
  W (aexec (CF k) noX 0 k (.loop keep_Snaps_l0) T H) (fun ex T' H' => (ex = .exit 0 ∧ a = b) ∨ (ex = .ret ∧ T' 4 = .bool false ∧ a ≠ b)) := by
 refine w_for a.length (fun i T' H' => a.take i = b.take i ∧ Has T' [(0, .islc t f s (a.map SnapV.av)), (1, .islc t' f' s' (b.map SnapV.av)), (5, .int .i64 (i : Nat))]) ⟨rfl, hT⟩ (by omega) ?_
 rintro i T H2 hi ⟨he, hT⟩
 rw [hT.eq]
 simp only [over]
 unfold keep_Snaps_l0
 have hml : (a.map SnapV.av).length = a.length := List.length_map _
 by_cases hlt : i < a.length
 ·obtain rfl : s = 5 := hs.resolve_right (fun h => by rw [h] at hlt; simp at hlt)
  have hbl : i < b.length := by omega
  obtain rfl : s' = 5 := hs'.resolve_right (fun h => by rw [h] at hbl; simp at hbl)
  obtain ⟨x, hx⟩ : ∃ x, x = a[i] := ⟨_, rfl⟩
  obtain ⟨y, hy⟩ : ∃ y, y = b[i] := ⟨_, rfl⟩
  have hxw := hwa a[i] (List.getElem_mem hlt)
  have hyw := hwb b[i] (List.getElem_mem hbl)
  rw [← hx] at hxw
  rw [← hy] at hyw
  have hby := c_Snap k (by omega) x y hxw hyw
  have hst : a.take (i + 1) = b.take (i + 1) ↔ x = y := by
   rw [List.take_succ_eq_append_getElem hlt, List.take_succ_eq_append_getElem hbl, ← hx, ← hy, he]
   simp
  have hex : (a.map SnapV.av)[(i : Int).toNat]? = some (SnapV.av x) := by
   rw [Int.toNat_natCast, List.getElem?_map, List.getElem?_eq_getElem hlt, ← hx]; rfl
  have hey : (b.map SnapV.av)[(i : Int).toNat]? = some (SnapV.av y) := by
   rw [Int.toNat_natCast, List.getElem?_map, List.getElem?_eq_getElem hbl, ← hy]; rfl
  rw [show SnapV.av x = .agg [.int .i64 x.id, .int .i64 x.parent, .islc false false 1 (x.sectors.map rowAv), .int .i64 x.frames, .int .i64 x.digest] from rfl] at hex hby
  rw [show SnapV.av y = .agg [.int .i64 y.id, .int .i64 y.parent, .islc false false 1 (y.sectors.map rowAv), .int .i64 y.frames, .int .i64 y.digest] from rfl] at hey hby
  by_cases hxy : x = y
  ·rw [decide_eq_true hxy] at hby
   repeat' (first
    | refine qS ?_ | refine wo_lenG (n := a.length) rfl hml rfl rfl ?_ | refine wo_atG rfl rfl (by omega) hex rfl rfl ?_ | refine wo_atG rfl rfl (by omega) hey rfl rfl ?_
    | refine q_call hby ?_ | refine qQba ?_ | refine q_cmp2 (fun _ => ?_) (fun _ => ?_))
   exact ⟨hlt, hst.2 hxy, rfl, rfl, by show AV.int _ _ = AV.int _ _; congr 1, trivial⟩
  ·rw [decide_eq_false hxy] at hby
   repeat' (first
    | refine qS ?_ | refine wo_lenG (n := a.length) rfl hml rfl rfl ?_ | refine wo_atG rfl rfl (by omega) hex rfl rfl ?_ | refine wo_atG rfl rfl (by omega) hey rfl rfl ?_
    | refine q_call hby ?_ | refine qQba ?_ | refine q_cmp2 (fun _ => ?_) (fun _ => ?_))
   exact .inr ⟨rfl, rfl, fun h => hxy (hst.1 (by rw [h]))⟩
 ·skip
  repeat' (first | refine qS ?_ | refine wo_lenG (n := a.length) rfl hml rfl rfl ?_ | refine qQba ?_ | refine q_cmp2 (fun _ => ?_) (fun _ => ?_))
  have h1 := List.take_of_length_le (l := a) (i := i) (by omega)
  have h2 := List.take_of_length_le (l := b) (i := i) (by omega)
  exact .inl ⟨rfl, by rw [← h1, ← h2]; exact he⟩
theorem c_keep_Snaps (k : Nat) (hk : 1000030 + 1 ≤ k) (t f t' f' : Bool) (s s' : Nat) (a b : List SnapV) (ha : a.length < 1000000) (hb : b.length < 1000000) (hs : s = 5 ∨ a = []) (hs' : s' = 5 ∨ b = []) (hwa : ∀ x ∈ a, rowsOk x.sectors) (hwb : ∀ x ∈ b, rowsOk x.sectors) :
  FnV (CF k) n_keep_Snaps [.islc t f s (a.map SnapV.av), .islc t' f' s' (b.map SnapV.av)] (.bool (decide (a = b))) := by
 refine fnk (by omega) B_keep_Snaps rfl ?_
 unfold keep_Snaps
 have hma : (a.map SnapV.av).length = a.length := List.length_map _
 have hmb : (b.map SnapV.av).length = b.length := List.length_map _
 by_cases hl : a.length = b.length
 ·have hl' : (a.length : Int) = (b.length : Int) := by omega
  repeat' (first | refine qS ?_ | refine wo_lenG (n := a.length) rfl hma rfl rfl ?_ | refine wo_lenG (n := b.length) rfl hmb rfl rfl ?_ | refine qQb ?_ | refine q_cmp2 (fun _ => ?_) (fun _ => ?_))
  refine W.mono (keep_Snaps_loop (k := k - 1) (a := a) (b := b) (t := t) (f := f) (t' := t') (f' := f') (s := s) (s' := s') ha hs hs' hl hwa hwb (by omega) ⟨rfl, rfl, rfl, trivial⟩) ?_
  rintro ex T2 H2 (⟨rfl, he⟩ | ⟨rfl, h4, he⟩)
  ·rw [decide_eq_true he]
   show W _ _
   repeat' (first | refine qQb ?_ | refine q_cmp2 (fun _ => ?_) (fun _ => ?_))
   exact ⟨Or.inr rfl, _, rfl, rfl⟩
  ·rw [decide_eq_false he]
   refine ⟨Or.inr rfl, .bool false, ?_, rfl⟩
   show aresults T2 H2 [.tmp 4] = _
   simp only [aresults, ares, List.mapM_cons, List.mapM_nil, h4]; rfl
 ·have hl' : (a.length : Int) ≠ (b.length : Int) := by omega
  have hne : a ≠ b := fun h => hl (by rw [h])
  rw [decide_eq_false hne]
  repeat' (first | refine qS ?_ | refine wo_lenG (n := a.length) rfl hma rfl rfl ?_ | refine wo_lenG (n := b.length) rfl hmb rfl rfl ?_ | refine qQb ?_ | refine q_cmp2 (fun _ => ?_) (fun _ => ?_))
  exact ⟨Or.inr rfl, _, rfl, rfl⟩
end Go.Proofs.YtkaiiopoilpjeaaGreat
set_option linter.unusedSimpArgs false
set_option linter.unusedVariables false
set_option maxRecDepth 10000
set_option maxHeartbeats 16000000
namespace Go.Proofs.YtkaiiopoilpjeaaGreat
open Go.AI
theorem fz_sn {b : Nat} {H : Heap} {S : List SnapV} (h : SnAt b H S) (n : Nat) : fz true (n + 4) H (snAv b S.length) = snapsAv S := by
 unfold snAv snapsAv
 unfold SnAt at h
 by_cases h0 : S = []
 ·subst h0; rfl
 ·rw [if_neg h0] at h ⊢
  rw [if_neg (fun hh => h0 (List.length_eq_zero_iff.1 hh))]
  have e : (S.map SnapV.av).map (fz true (n + 3) H) = S.map SnapV.av := by
   rw [List.map_map]
   exact List.map_congr_left fun s _ => rfl
  show fz true (n + 3 + 1) H _ = _
  rw [fz_slc (row_of h (by simp)) (by omega), List.drop_zero, List.take_of_length_le (by simp), e]
  rfl
theorem img_m {l : List UInt8} {x : Img} (hx : x.fit l) : ∀ w ∈ x.trees, w.m.length = 512 ∧ ∀ a ∈ w.m, a < nb l := fun w hw => ⟨(hx.tree w hw).1.1.1, (hx.tree w hw).1.1.2.1⟩
attribute [local irreducible] aops aexec acall aiter aop W WO
theorem c_view_Of (k : Nat) (hk : 1000200 ≤ k) (f : Bool) (l : List UInt8) (hl : l.length < 1000000) : FnV (CF k) n_view_Of [.islc false f 1 (BL l)] (viewQ l (lookQ l)) := by
 have hlk := c_LookQ (k - 1) (by omega) f l hl
 refine fnk (by omega) B_view_Of rfl ?_
 unfold view_Of
 cases h : lookQ l with
 | error p =>
  obtain ⟨a, e⟩ := p
  have he := lookQ_err h
  rw [h] at hlk
  unfold lookAv at hlk
  unfold viewQ
  simp only at hlk ⊢
  have he0 : (e : Int) ≠ 0 := by omega
  repeat' (first | refine q_callB (hlk) (fun _ => ?_) (fun _ => ?_) | refine q_call (hlk) ?_ | refine qQb ?_ | refine q_cmp2 (fun _ => ?_) (fun _ => ?_) | refine q_app fun _ => ?_)
  exact ⟨Or.inr rfl, _, rfl, rfl⟩
 | ok x =>
  rw [h] at hlk
  obtain ⟨hd, hx⟩ := lookQ_ok hl h
  have hm := img_m hx
  have hfew := hx.few
  have htl := hx.trees
  have hrok := hx.recs
  have hsz := hx.sup.2.2.1
  obtain ⟨f1, s1, hr, hs1⟩ := rIvF x.recs
  obtain ⟨f2, s2, hb, hs2⟩ := nodesIvF x.blocks
  unfold lookAv Img.cs at hlk
  unfold viewQ viewP ViewV.cs
  simp only at hlk ⊢
  rw [hr, hb] at hlk
  cases hts : x.trees with
  | nil => rw [hts] at htl; simp at htl
  | cons w0 ws =>
   rw [hts] at hlk hm htl
   have hw0 := hm w0 (by simp)
   have hse := c_view_sectors (k - 1) (by omega) f false false l hd w0.m hw0.2 (by rw [hw0.1]; decide) x.sup.size (by rw [hw0.1]; exact hsz)
   unfold rowsAv at hse
   have he0 : ((w0 :: ws).map (WS.iv f l))[(0 : Int).toNat]? = some (.iptr false [.islc false f 1 (BL l), .int .i64 (nb l : Nat), .islc false false 1 (NL w0.m), nodesIv false w0.nodes, .bool w0.bad]) := rfl
   have hrl : (x.recs.map Rec.av).length = x.recs.length := List.length_map _
   generalize hR : secsP l w0.m x.sup.size = R at *
   repeat' (first
    | refine qS ?_ | refine q_nilcI ?_ | refine wo_atG rfl rfl (by decide) he0 rfl rfl ?_ | refine q_call hse ?_
    | refine q_build (cs := [.islc false false 1 (R.map rowAv), .islc false true 0 [], .islc false true 0 []]) ?_ (hc := by kernel_rfl) | refine q_box ?_ (hl := by kernel_rfl)
    | refine wo_lenG (n := x.recs.length) rfl hrl rfl rfl ?_ | refine q_callB (hlk) (fun _ => ?_) (fun _ => ?_) | refine q_call (hlk) ?_ | refine qQb ?_
    | refine q_cmp2 (fun _ => ?_) (fun _ => ?_) | refine q_app fun _ => ?_)
   refine W.mono (of_loop (k := k - 1) (l := l) (f := f) (f' := f1) (s' := s1) (recs := x.recs) (ws := ws) (w0 := w0) (c0 := .int .i64 x.sup.gen) (c1 := .int .i64 x.sup.blocks) (c2 := .int .i64 x.sup.root) (c3 := .int .i64 x.sup.size) (c4 := .int .i64 x.sup.first) (c5 := .int .i64 x.slot) (bv := .islc false f2 s2 (NL x.blocks)) (hd := .islc false false 1 (R.map rowAv)) (by omega) hd hs1 (by omega) (by simpa using htl) (fun w hw => hm w (by simp [hw])) (fun r hr => (hrok r hr).2.2.2.1) ?_ ?_ ?_ ?_) ?_
   ·rfl
   ·rfl
   ·rfl
   ·exact ⟨rfl, rfl, rfl, rfl, rfl, rfl, rfl, trivial⟩
   rintro ex T2 H2 ⟨rfl, g0, g1, g7, g5, h2, h7⟩
   rw [Has.eq (T := T2) (ps := [(2, _), (7, _)]) ⟨h2, h7, trivial⟩]
   simp only [over]
   show W _ _
   have g0' : H2 0 = ⟨1, false, .row 3 [.agg [.islc false true 0 [], .islc false true 0 [], .islc false true 0 []]]⟩ := g0.trans rfl
   repeat' (first | refine qS ?_ | refine q_loadR ?_ (hr := by exact g1) | refine q_storeR ?_ (hr := by exact g0') | refine qQb ?_ | refine q_cmp2 (fun _ => ?_) (fun _ => ?_) | refine q_app fun _ => ?_)
   refine ⟨Or.inr rfl, .tup [.agg [.islc false false 1 (R.map rowAv), snAv 7 (snapsT l (x.recs.zip ws)).length, snAv 5 (opensT l (x.recs.zip ws)).length], .int .i64 0], rfl, ?_⟩
   show AV.tup [.agg [_, fz true 4 _ (snAv 7 _), fz true 4 _ (snAv 5 _)], _] = _
   have hup : ∀ (v : Blk) b (S : List SnapV), b ≠ 0 → SnAt b H2 S → SnAt b (H2.upd 0 v) S := by
    intro v b S hb0 hS
    unfold SnAt at hS ⊢
    rw [Heap.upd_eq, if_neg hb0]; exact hS
   rw [fz_sn (hup _ 7 _ (by decide) g7) 0, fz_sn (hup _ 5 _ (by decide) g5) 0]
   unfold rowsAv snapsT opensT
   simp only [List.headD_cons, List.tail_cons, hR]
   rfl
def soundP (l : List UInt8) : Bool := match lookQ l with | .ok _ => true | .error _ => false
theorem c_Sound (k : Nat) (hk : 1000200 ≤ k) (f : Bool) (l : List UInt8) (hl : l.length < 1000000) : FnV (CF k) n_fsck_Sound [.islc false f 1 (BL l)] (.bool (soundP l)) := by
 have hlk := c_LookQ (k - 2) (by omega) f l hl
 cases h : lookQ l with
 | error p =>
  obtain ⟨a, e⟩ := p
  have he := lookQ_err h
  rw [h] at hlk
  unfold lookAv at hlk
  have hsp : soundP l = false := by unfold soundP; rw [h]
  rw [hsp]
  simp only at hlk
  have he0 : (e : Int) ≠ 0 := by omega
  have hck : FnV (CF (k - 1)) n_fsck_Check [.islc false f 1 (BL l)] (.islc false false 2 [.agg [.int .i64 a, .int .i64 e]]) := by
   refine fnk (by omega) B_fsck_Check rfl ?_
   rw [show k - 1 - 1 = k - 2 by omega]
   unfold fsck_Check
   repeat' (first | refine q_callB (hlk) (fun _ => ?_) (fun _ => ?_) | refine q_call (hlk) ?_ | refine qQb ?_ | refine q_cmp2 (fun _ => ?_) (fun _ => ?_))
   exact ⟨Or.inr rfl, _, rfl, rfl⟩
  refine fnk (by omega) B_fsck_Sound rfl ?_
  unfold fsck_Sound
  repeat' (first | refine qS ?_ | refine wo_lenG (n := 1) rfl rfl rfl rfl ?_ | refine q_callB (hck) (fun _ => ?_) (fun _ => ?_) | refine q_call (hck) ?_ | refine qQb ?_ | refine q_cmp2 (fun _ => ?_) (fun _ => ?_))
  exact ⟨Or.inr rfl, _, rfl, rfl⟩
 | ok x =>
  rw [h] at hlk
  obtain ⟨f1, s1, hr, hs1⟩ := rIvF x.recs
  obtain ⟨f2, s2, hb, hs2⟩ := nodesIvF x.blocks
  unfold lookAv Img.cs at hlk
  simp only at hlk
  rw [hr, hb] at hlk
  have hsp : soundP l = true := by unfold soundP; rw [h]
  rw [hsp]
  have hck : FnV (CF (k - 1)) n_fsck_Check [.islc false f 1 (BL l)] (.islc false true 0 []) := by
   refine fnk (by omega) B_fsck_Check rfl ?_
   rw [show k - 1 - 1 = k - 2 by omega]
   unfold fsck_Check
   repeat' (first | refine q_callB (hlk) (fun _ => ?_) (fun _ => ?_) | refine q_call (hlk) ?_ | refine qQb ?_ | refine q_cmp2 (fun _ => ?_) (fun _ => ?_))
   exact ⟨Or.inr rfl, _, rfl, rfl⟩
  refine fnk (by omega) B_fsck_Sound rfl ?_
  unfold fsck_Sound
  repeat' (first | refine qS ?_ | refine wo_lenG (n := 0) rfl rfl rfl rfl ?_ | refine q_callB (hck) (fun _ => ?_) (fun _ => ?_) | refine q_call (hck) ?_ | refine qQb ?_ | refine q_cmp2 (fun _ => ?_) (fun _ => ?_))
  exact ⟨Or.inr rfl, _, rfl, rfl⟩
def leftAv (l : List UInt8) : Except (Nat × Nat) Img → AV
 | .ok x => .tup [.int .i64 (freeP (countsP l x)).length, .int .i64 0]
 | .error (_, e) => .tup [.int .i64 0, .int .i64 e]
theorem c_Left (k : Nat) (hk : 1000200 ≤ k) (f : Bool) (l : List UInt8) (hl : l.length < 1000000) : FnV (CF k) n_alloc_Left [.islc false f 1 (BL l)] (leftAv l (lookQ l)) := by
 have hlk := c_LookQ (k - 2) (by omega) f l hl
 cases h : lookQ l with
 | error p =>
  obtain ⟨a, e⟩ := p
  have he := lookQ_err h
  rw [h] at hlk
  unfold lookAv at hlk
  unfold leftAv
  simp only at hlk ⊢
  have he0 : (e : Int) ≠ 0 := by omega
  have hck : FnV (CF (k - 1)) n_walk_Counts [.islc false f 1 (BL l)] (.tup [.islc false true 0 [], .int .i64 e]) := by
   refine fnk (by omega) B_walk_Counts rfl ?_
   rw [show k - 1 - 1 = k - 2 by omega]
   unfold walk_Counts
   repeat' (first | refine q_callB (hlk) (fun _ => ?_) (fun _ => ?_) | refine q_call (hlk) ?_ | refine qQb ?_ | refine q_cmp2 (fun _ => ?_) (fun _ => ?_))
   exact ⟨Or.inr rfl, _, rfl, rfl⟩
  refine fnk (by omega) B_alloc_Left rfl ?_
  unfold alloc_Left
  repeat' (first | refine q_callB (hck) (fun _ => ?_) (fun _ => ?_) | refine q_call (hck) ?_ | refine qQb ?_ | refine q_cmp2 (fun _ => ?_) (fun _ => ?_))
  exact ⟨Or.inr rfl, _, rfl, rfl⟩
 | ok x =>
  rw [h] at hlk
  obtain ⟨hd, hx⟩ := lookQ_ok hl h
  obtain ⟨f1, s1, hr, hs1⟩ := rIvF x.recs
  obtain ⟨f2, s2, hb, hs2⟩ := nodesIvF x.blocks
  have hwo := c_walk_Of (k - 2) (by omega) f l hd x hx
  obtain ⟨cl, cv⟩ := countsP_cb hx
  have hdn := hd.nb
  have hfr := c_alloc_free (k - 1) (by omega) false false (countsP l x) (by omega) cv
  have hfl : (freeP (countsP l x)).length < 1000000 := by
   have : (freeP (countsP l x)).length ≤ (countsP l x).length := by
    unfold freeP
    have := List.length_filter_le (isFree (countsP l x)) (List.range (countsP l x).length)
    rwa [List.length_range] at this
   omega
  unfold leftAv
  simp only
  unfold lookAv at hlk
  unfold Img.cs at hlk hwo
  simp only at hlk hwo
  rw [hr, hb] at hlk hwo
  generalize countsP l x = C at *
  have hck : FnV (CF (k - 1)) n_walk_Counts [.islc false f 1 (BL l)] (.tup [.islc false false 1 (NL C), .int .i64 0]) := by
   refine fnk (by omega) B_walk_Counts rfl ?_
   rw [show k - 1 - 1 = k - 2 by omega]
   unfold walk_Counts
   repeat' (first | refine qS ?_ | refine q_call hwo ?_ | refine q_callB (hlk) (fun _ => ?_) (fun _ => ?_) | refine q_call (hlk) ?_ | refine qQb ?_ | refine q_cmp2 (fun _ => ?_) (fun _ => ?_))
   exact ⟨Or.inr rfl, _, rfl, rfl⟩
  have hnl : (NL (freeP C)).length = (freeP C).length := NL_len _
  refine fnk (by omega) B_alloc_Left rfl ?_
  unfold alloc_Left
  repeat' (first
   | refine qS ?_ | refine q_call hfr ?_ | refine wo_lenG (n := (freeP C).length) rfl hnl rfl rfl ?_ | refine q_callB (hck) (fun _ => ?_) (fun _ => ?_) | refine q_call (hck) ?_
   | refine qQb ?_ | refine q_cmp2 (fun _ => ?_) (fun _ => ?_))
  exact ⟨Or.inr rfl, _, rfl, rfl⟩
end Go.Proofs.YtkaiiopoilpjeaaGreat
set_option linter.unusedSimpArgs false
set_option linter.unusedVariables false
set_option maxRecDepth 10000
set_option maxHeartbeats 16000000
namespace Go.Proofs.YtkaiiopoilpjeaaGreat
open Go.AI
theorem viewP_ok {l : List UInt8} {x : Img} (hd : Dev l) (hx : x.fit l) : (viewP l x).ok := by
 have hm := img_m hx
 have hf := hx.few
 have hsec : ∀ {m : List Nat} (n : Nat), m.length = 512 → (∀ a ∈ m, a < nb l) → rowsOk (secsP l m n) := by
  intro m n h1 h2
  unfold rowsOk secsP
  refine ⟨by rw [List.length_map, List.length_take]; omega, fun r hr => ?_⟩
  obtain ⟨a, ha, rfl⟩ := List.mem_map.1 hr
  rw [secB_len fun _ => hd.le (h2 a (List.mem_of_mem_take ha))]; decide
 have hz : ∀ p ∈ x.recs.zip x.trees.tail, p.2 ∈ x.trees := fun p hp => List.mem_of_mem_tail (List.of_mem_zip hp).2
 have hzl : (x.recs.zip x.trees.tail).length ≤ 61 := by rw [List.length_zip]; omega
 unfold viewP ViewV.ok
 refine ⟨?_, ⟨?_, ?_⟩, ?_, ?_⟩
 ·cases ht : x.trees with
  | nil => have := hx.trees; rw [ht] at this; simp at this
  | cons w ws => have := hm w (by rw [ht]; simp); exact hsec _ this.1 this.2
 ·rw [List.length_map]; have := List.length_filter_le (fun p => !pendR p) (x.recs.zip x.trees.tail); omega
 ·intro s hs
  obtain ⟨p, hp, rfl⟩ := List.mem_map.1 hs
  have := hm p.2 (hz p (List.mem_filter.1 hp).1)
  exact hsec _ this.1 this.2
 ·rw [List.length_map]; have := List.length_filter_le pendR (x.recs.zip x.trees.tail); omega
 ·intro s hs
  obtain ⟨p, hp, rfl⟩ := List.mem_map.1 hs
  have := hm p.2 (hz p (List.mem_filter.1 hp).1)
  exact hsec _ this.1 this.2
attribute [local irreducible] aops aexec acall aiter aop W WO
theorem gone_loop {k : Nat} {id : Int} {S : List SnapV} {f2 : Bool} {s2 : Nat} {hd O : AV} {v11 : AV} {T : Tmps} {H : Heap} (hk : 1000000 ≤ k) (hs : s2 = 5 ∨ S = []) (hl : S.length < 1000)
  (h0 : H 0 = ⟨1, false, .row 3 [.agg [hd, .islc false f2 s2 (S.map SnapV.av), O]]⟩) (h2 : H 2 = ⟨1, false, .row 5 []⟩)
  (hT : Has T [(1, .int .i64 id), (9, .ptr 0 1 1 3 0 0), (11, v11), (17, .slc 2 1 0 5 0 0 none), (18, .int .i64 0)]) :
  W (aexec (CF k) noX 0 k (.loop law19_SnapGone_l0) T H) (fun ex T' H' => ex = .exit 0 ∧ H' 0 = H 0 ∧ H' 1 = H 1 ∧ H' 2 = ⟨1, false, .row 5 ((S.filter fun s => decide ((s.id : Int) ≠ id)).map SnapV.av)⟩ ∧ T' 9 = .ptr 0 1 1 3 0 0 ∧ T' 11 = v11 ∧ T' 17 = .slc 2 1 (S.filter fun s => decide ((s.id : Int) ≠ id)).length 5 0 (S.filter fun s => decide ((s.id : Int) ≠ id)).length none) := by
 refine w_for S.length (fun i T' H' => H' 0 = H 0 ∧ H' 1 = H 1 ∧ H' 2 = ⟨1, false, .row 5 (((S.take i).filter fun s => decide ((s.id : Int) ≠ id)).map SnapV.av)⟩ ∧
   Has T' [(1, .int .i64 id), (9, .ptr 0 1 1 3 0 0), (11, v11), (17, .slc 2 1 ((S.take i).filter fun s => decide ((s.id : Int) ≠ id)).length 5 0 ((S.take i).filter fun s => decide ((s.id : Int) ≠ id)).length none), (18, .int .i64 (i : Nat))]) ⟨rfl, rfl, h2, hT⟩ (by omega) ?_
 rintro i T H' hi ⟨g0, g1, g2, hT⟩
 have g0' : H' 0 = ⟨1, false, .row 3 [.agg [hd, .islc false f2 s2 (S.map SnapV.av), O]]⟩ := g0.trans h0
 rw [hT.eq]
 simp only [over]
 unfold law19_SnapGone_l0
 have hml : (S.map SnapV.av).length = S.length := List.length_map _
 by_cases hlt : i < S.length
 ·obtain rfl : s2 = 5 := hs.resolve_right (fun h => by rw [h] at hlt; simp at hlt)
  obtain ⟨s, hse⟩ : ∃ s, s = S[i] := ⟨_, rfl⟩
  have he2 : (S.map SnapV.av)[(i : Int).toNat]? = some (.agg [.int .i64 s.id, .int .i64 s.parent, .islc false false 1 (s.sectors.map rowAv), .int .i64 s.frames, .int .i64 s.digest]) := by
   rw [Int.toNat_natCast, List.getElem?_map, List.getElem?_eq_getElem hlt, ← hse]; rfl
  have hst : (S.take (i + 1)).filter (fun s => decide ((s.id : Int) ≠ id)) = (S.take i).filter (fun s => decide ((s.id : Int) ≠ id)) ++ (if (s.id : Int) = id then [] else [s]) := by
   rw [List.take_succ_eq_append_getElem hlt, ← hse, List.filter_append]
   congr 1
   by_cases h : (s.id : Int) = id
   ·rw [if_pos h, List.filter_cons, if_neg (by simp [h])]; rfl
   ·rw [if_neg h, List.filter_cons, if_pos (by simp [h])]; rfl
  rw [hst]
  have hfl : ((S.take i).filter fun s => decide ((s.id : Int) ≠ id)).length ≤ i := Nat.le_trans (List.length_filter_le _ _) (by rw [List.length_take]; omega)
  generalize (S.take i).filter (fun s => decide ((s.id : Int) ≠ id)) = F at *
  have hfm : (F.map SnapV.av).length = F.length := List.length_map _
  by_cases h : (s.id : Int) = id
  ·rw [if_pos h, List.append_nil]
   repeat' (first
    | refine qS ?_ | refine q_loadR ?_ (hr := by exact g0') | refine wo_lenG (n := S.length) rfl hml rfl rfl ?_ | refine wo_atG rfl rfl (by omega) he2 rfl rfl ?_ | refine qQba ?_
    | refine q_cmp2 (fun _ => ?_) (fun _ => ?_) | refine q_app fun _ => ?_)
   exact ⟨hlt, g0, g1, g2, rfl, rfl, rfl, rfl, by show AV.int _ _ = AV.int _ _; congr 1, trivial⟩
  ·rw [if_neg h]
   repeat' (first
    | refine qS ?_ | refine q_loadR ?_ (hr := by exact g0') | refine wo_lenG (n := S.length) rfl hml rfl rfl ?_ | refine wo_atG rfl rfl (by omega) he2 rfl rfl ?_
    | refine wo_app1 (e := .agg [.int .i64 s.id, .int .i64 s.parent, .islc false false 1 (s.sectors.map rowAv), .int .i64 s.frames, .int .i64 s.digest]) rfl rfl rfl (by exact g2) hfm rfl (by omega) rfl rfl (fun _ => ?_)
    | refine qQba ?_ | refine q_cmp2 (fun _ => ?_) (fun _ => ?_) | refine q_app fun _ => ?_)
   refine ⟨hlt, g0, g1, ?_, rfl, rfl, rfl, ?_, by show AV.int _ _ = AV.int _ _; congr 1, trivial⟩
   ·rw [List.map_append]; rfl
   ·rw [List.length_append]; rfl
 ·have hin : i = S.length := by omega
  subst hin
  rw [List.take_length] at g2 ⊢
  repeat' (first | refine qS ?_ | refine q_loadR ?_ (hr := by exact g0') | refine wo_lenG (n := S.length) rfl hml rfl rfl ?_ | refine qQba ?_ | refine q_cmp2 (fun _ => ?_) (fun _ => ?_) | refine q_app fun _ => ?_)
  exact ⟨rfl, g0, g1, g2, rfl, rfl, rfl⟩
theorem gone_facts {l : List UInt8} (hl : l.length < 1000000) {id : Int} {ios : List IoV} (h : deleteP l id = .ok ios) : ∃ x x', lookQ l = .ok x ∧ lookQ (applyP l ios) = .ok x' ∧ (applyP l ios).length = l.length ∧ stepsE l ios = 0 ∧ Dev l ∧ Dev (applyP l ios) ∧ x.fit l ∧ x'.fit (applyP l ios) ∧
  (freeP (countsP l x)).length + 1 ≤ (freeP (countsP (applyP l ios) x')).length ∧ ((viewP l x).snaps.filter fun s => decide ((s.id : Int) ≠ id)).length + 1 = (viewP l x).snaps.length ∧ viewP (applyP l ios) x' = ⟨(viewP l x).head, (viewP l x).snaps.filter (fun s => decide ((s.id : Int) ≠ id)), (viewP l x).opens⟩ := by
 obtain ⟨x, x', j, hj, hd, hI, hid, hkd, hmk, hm, hk, hcore, hr, hz, _, ht, hv⟩ := delete_img hl h
 have hd' := dev_of hd hm.len
 have hx := img_fit hd hI
 refine ⟨x, x', (lookQ_iff hl).2 ⟨hd, hI⟩, (lookQ_iff (by rw [hm.len]; exact hl)).2 ⟨hd', hm.img⟩, hm.len, makes_right hd hx hmk, hd, hd', hx, img_fit hd' hm.img, delete_left hd hI hj hm hk hcore hr ht, ?_, hv⟩
 obtain ⟨s, hs, hse⟩ := snaps_has hI hj hkd
 exact filter_one _ (snaps_nodup hI) ⟨s, hs, by rw [hse]; exact hid⟩
theorem law_SnapGone (l : List UInt8) (hm : l.length ≤ maxLen) (id : Int) : ∃ H, CF 1000700 n_law19_SnapGone 0 [.islc false false 1 (BL l), .int .i64 id] Heap.none = some (.bool true, H) := by
 suffices h : FnV (CF 1000700) n_law19_SnapGone [.islc false false 1 (BL l), .int .i64 id] (.bool true) by
  obtain ⟨u, H, h1, h2⟩ := h
  refine ⟨H, ?_⟩
  rw [h1, fz_true h2]
 have hH := c_Heavy0 (1000700 - 1) (by omega) false false l
 have hW := c_wakes19 (1000700 - 1) (by omega)
 by_cases hl1 : l.length > 19200
 ·rw [decide_eq_true hl1] at hH
  refine fnk (by omega) B_law19_SnapGone rfl ?_
  unfold law19_SnapGone
  repeat' (first | refine qS ?_ | refine qN ?_ | refine q_call hH ?_ | refine qQb ?_ | refine q_app fun _ => ?_)
  exact ⟨Or.inr rfl, _, rfl, rfl⟩
 rw [decide_eq_false hl1] at hH
 have hl : l.length < 1000000 := by omega
 have pD := c_Delete (1000700 - 1) (by omega) false l hl id
 cases hdel : deleteP l id with
 | error e =>
  have he := deleteP_err hdel
  rw [hdel] at pD
  unfold iosAv at pD
  simp only at pD
  have he0 : (e : Int) ≠ 0 := by omega
  refine fnk (by omega) B_law19_SnapGone rfl ?_
  unfold law19_SnapGone
  repeat' (first | refine qS ?_ | refine qN ?_ | refine q_call hH ?_ | refine q_call pD ?_ | refine q_call hW ?_ | refine wo_lenG (n := 0) rfl rfl rfl rfl ?_ | refine qQb ?_ | refine q_app fun _ => ?_)
  exact ⟨Or.inr rfl, _, rfl, rfl⟩
 | ok ios =>
  have hok := deleteP_ok hl hdel
  rw [hdel] at pD
  unfold iosAv at pD
  simp only at pD
  obtain ⟨x, x', hq, hq', hlen, hst, hd, hd', hx, hx', hfr, hfl, hv⟩ := gone_facts hl hdel
  have hl' : (applyP l ios).length < 1000000 := by rw [hlen]; exact hl
  have pA := c_Apply (1000700 - 1) (by omega) false false l hl false false 3 ios (.inl rfl) hok.1 (fun y hy => (hok.2 y hy).1)
  unfold applyAv at pA
  rw [if_neg (fun h => h hst)] at pA
  have hvo := viewP_ok hd hx
  have pV := c_view_Of (1000700 - 1) (by omega) false l hl
  have pV' := c_view_Of (1000700 - 1) (by omega) false (applyP l ios) hl'
  have pL := c_Left (1000700 - 1) (by omega) false l hl
  have pL' := c_Left (1000700 - 1) (by omega) false (applyP l ios) hl'
  have pS := c_Sound (1000700 - 1) (by omega) false (applyP l ios) hl'
  unfold soundP at pS
  rw [hq] at pV pL
  rw [hq'] at pV' pL' pS
  unfold viewQ at pV pV'
  unfold leftAv at pL pL'
  simp only at pV pV' pL pL' pS
  rw [hv] at pV'
  have hF1 : (freeP (countsP l x)).length ≤ 4096 := by
   have h1 := freeP_len (countsP l x)
   have h2 := (countsP_cb hx).1
   have h3 := hd.nb
   omega
  generalize freeP (countsP l x) = F1 at *
  generalize freeP (countsP (applyP l ios) x') = F2 at *
  generalize hvl : viewP l x = v at *
  obtain ⟨hdv, S, O⟩ := v
  unfold ViewV.cs at pV pV'
  obtain ⟨⟨vo1, vo2⟩, ⟨vo3, vo4⟩, vo5, vo6⟩ := hvo
  simp only at pV pV' hfl hv vo1 vo2 vo3 vo4 vo5 vo6
  obtain ⟨fS, sS, eS, hS⟩ := snapsAvF S
  obtain ⟨fO, sO, eO, hO⟩ := snapsAvF O
  have hSl : S.length < 1000 := by
   have := congrArg ViewV.snaps hvl
   simp only at this
   rw [← this]
   unfold viewP
   simp only
   rw [List.length_map]
   have h1 := List.length_filter_le (fun p => !pendR p) (x.recs.zip x.trees.tail)
   have h2 := hx.few
   rw [List.length_zip] at h1
   omega
  obtain ⟨F, hF⟩ : ∃ F, F = S.filter (fun s => decide ((s.id : Int) ≠ id)) := ⟨_, rfl⟩
  have hFm : ∀ s ∈ F, s ∈ S := fun s hs => by rw [hF] at hs; exact (List.mem_filter.1 hs).1
  rw [← hF] at pV' hfl
  obtain ⟨fF, sF, eF, hFs⟩ := snapsAvF F
  rw [eS, eO] at pV
  rw [eF, eO] at pV'
  have kR := c_keep_Rows (1000700 - 1) (by omega) false false false false 1 1 hdv hdv vo1 vo1 (.inl rfl) (.inl rfl) vo2 vo2
  have kS := c_keep_Snaps (1000700 - 1) (by omega) false fF true false sF 5 F F (by omega) (by omega) hFs (.inl rfl) (fun s hs => vo4 s (hFm s hs)) (fun s hs => vo4 s (hFm s hs))
  have kO := c_keep_Snaps (1000700 - 1) (by omega) false fO false fO sO sO O O vo5 vo5 hO hO vo6 vo6
  rw [decide_eq_true rfl] at kR kS kO
  unfold rowsAv at pV pV'
  have hFl : (F.map SnapV.av).length = F.length := List.length_map _
  have hSl2 : (S.map SnapV.av).length = S.length := List.length_map _
  have hlt1 : ¬ ((F2.length : Int) < F1.length + 1) := by omega
  have hlt2 : (F.length : Int) = S.length - 1 := by omega
  refine fnk (by omega) B_law19_SnapGone rfl ?_
  unfold law19_SnapGone
  repeat' (first
   | refine qS ?_ | refine qN ?_ | refine q_call hH ?_ | refine q_call pD ?_ | refine q_call pA ?_ | refine q_call pV ?_ | refine q_call pV' ?_ | refine q_call pL ?_ | refine q_call pL' ?_
   | refine q_call pS ?_ | refine q_box ?_ (hl := by kernel_rfl) | refine qQb ?_ | refine q_app fun _ => ?_)
  refine W.mono (gone_loop (k := 1000700 - 1) (id := id) (S := S) (f2 := fS) (s2 := sS) (hd := .islc false false 1 (hdv.map rowAv)) (O := .islc false fO sO (O.map SnapV.av)) (v11 := .ptr 1 1 1 3 0 0) (by omega) hS hSl ?_ ?_ ?_) ?_
  ·rfl
  ·rfl
  ·exact ⟨rfl, rfl, rfl, rfl, rfl, trivial⟩
  rw [← hF]
  rintro ex T2 H2 ⟨rfl, g0, g1, g2, h9, h11, h17⟩
  rw [Has.eq (T := T2) (ps := [(9, _), (11, _), (17, _)]) ⟨h9, h11, h17, trivial⟩]
  simp only [over]
  show W _ _
  have g0' : H2 0 = ⟨1, false, .row 3 [.agg [.islc false false 1 (hdv.map rowAv), .islc false fS sS (S.map SnapV.av), .islc false fO sO (O.map SnapV.av)]]⟩ := g0.trans rfl
  have g1' : H2 1 = ⟨1, false, .row 3 [.agg [.islc false false 1 (hdv.map rowAv), .islc false fF sF (F.map SnapV.av), .islc false fO sO (O.map SnapV.av)]]⟩ := g1.trans rfl
  have hfz : ∀ H : Heap, H 2 = ⟨1, false, .row 5 (F.map SnapV.av)⟩ → fz false 6 H (.slc 2 1 F.length 5 0 F.length none) = .islc true false 5 (F.map SnapV.av) := by
   intro H h
   have e : (F.map SnapV.av).map (fz false 5 H) = F.map SnapV.av := by
    rw [List.map_map]
    exact List.map_congr_left fun s _ => rfl
   rw [fz_slc (row_of h (by simp)) (by omega), List.drop_zero, List.take_of_length_le (by simp), e]
   rfl
  repeat' (first
   | refine qS ?_ | refine qN ?_ | refine q_loadR ?_ (hr := by first | exact g0' | exact g1') | refine q_call kS ?_ rfl (by exact congrArg (fun z => [_, z]) (hfz _ (by exact g2)))
   | refine q_call kR ?_ | refine q_call kO ?_ | refine q_call hW ?_ | refine wo_lenG (n := S.length) rfl hSl2 rfl rfl ?_ | refine qQb ?_ | refine q_app fun _ => ?_)
  exact ⟨Or.inr rfl, _, rfl, rfl⟩
end Go.Proofs.YtkaiiopoilpjeaaGreat
