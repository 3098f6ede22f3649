/- Lemmas. -/
import Derived.Test.YtkaiiopoilpjeaaGreatME1
import Derived.Test.YtkaiiopoilpjeaaGreatMD1
import Derived.Test.YtkaiiopoilpjeaaGreatMJ4
import Derived.Test.YtkaiiopoilpjeaaGreatMN
import Derived.Test.YtkaiiopoilpjeaaGreatMD2
set_option linter.unusedSimpArgs false
set_option linter.unusedVariables false
set_option maxRecDepth 10000
set_option maxHeartbeats 16000000
namespace Go.Proofs.YtkaiiopoilpjeaaGreat
open Go.AI
def rowsOk (r : List (List UInt8)) : Prop := r.length < 1000000 ∧ ∀ x ∈ r, x.length < 1000000
def ViewV.ok (v : ViewV) : Prop := rowsOk v.head ∧ (v.snaps.length < 1000000 ∧ ∀ s ∈ v.snaps, rowsOk s.sectors) ∧ v.opens.length < 1000000 ∧ ∀ s ∈ v.opens, rowsOk s.sectors
instance : DecidableEq SnapV := fun ⟨a, b, c, d, e⟩ ⟨a', b', c', d', e'⟩ => decidable_of_iff (a = a' ∧ b = b' ∧ c = c' ∧ d = d' ∧ e = e') (by simp)
instance : DecidableEq ViewV := fun ⟨a, b, c⟩ ⟨a', b', c'⟩ => decidable_of_iff (a = a' ∧ b = b' ∧ c = c') (by simp)
def ViewV.av (v : ViewV) : AV := .agg v.cs
attribute [local irreducible] aops aexec acall aiter aop W WO
theorem keep_Rows_loop {k : Nat} {H : Heap} {T : Tmps} {t f t' f' : Bool} {s s' : Nat} {a b : List (List UInt8)} (ha : a.length < 1000000) (hs : s = 1 ∨ a = []) (hs' : s' = 1 ∨ b = []) (hl : a.length = b.length) (hwa : ∀ x ∈ a, x.length < 1000000) (hwb : ∀ x ∈ b, x.length < 1000000) (hk : 1000010 ≤ k)
  (hT : Has T [(0, .islc t f s (a.map rowAv)), (1, .islc t' f' s' (b.map rowAv)), (5, .int .i64 0)]) :
  W (aexec (CF k) noX 0 k (.loop keep_Rows_l0) T H) (fun ex T' H' => (ex = .exit 0 ∧ a = b) ∨ (ex = .ret ∧ T' 4 = .bool false ∧ a ≠ b)) := by
 refine w_for a.length (fun i T' H' => a.take i = b.take i ∧ Has T' [(0, .islc t f s (a.map rowAv)), (1, .islc t' f' s' (b.map rowAv)), (5, .int .i64 (i : Nat))]) ⟨rfl, hT⟩ (by omega) ?_
 rintro i T H2 hi ⟨he, hT⟩
 rw [hT.eq]
 simp only [over]
 unfold keep_Rows_l0
 have hml : (a.map rowAv).length = a.length := List.length_map _
 by_cases hlt : i < a.length
 ·obtain rfl : s = 1 := hs.resolve_right (fun h => by rw [h] at hlt; simp at hlt)
  have hbl : i < b.length := by omega
  obtain rfl : s' = 1 := hs'.resolve_right (fun h => by rw [h] at hbl; simp at hbl)
  obtain ⟨x, hx⟩ : ∃ x, x = a[i] := ⟨_, rfl⟩
  obtain ⟨y, hy⟩ : ∃ y, y = b[i] := ⟨_, rfl⟩
  have hxw := hwa a[i] (List.getElem_mem hlt)
  have hyw := hwb b[i] (List.getElem_mem hbl)
  rw [← hx] at hxw
  rw [← hy] at hyw
  have hby := c_Bytes k (by omega) false false false false 1 1 x y hxw hyw (.inl rfl) (.inl rfl)
  have hst : a.take (i + 1) = b.take (i + 1) ↔ x = y := by
   rw [List.take_succ_eq_append_getElem hlt, List.take_succ_eq_append_getElem hbl, ← hx, ← hy, he]
   simp
  have hex : (a.map rowAv)[(i : Int).toNat]? = some (rowAv x) := by
   rw [Int.toNat_natCast, List.getElem?_map, List.getElem?_eq_getElem hlt, ← hx]; rfl
  have hey : (b.map rowAv)[(i : Int).toNat]? = some (rowAv y) := by
   rw [Int.toNat_natCast, List.getElem?_map, List.getElem?_eq_getElem hbl, ← hy]; rfl
  rw [show rowAv x = .islc false false 1 (BL x) from rfl] at hex
  rw [show rowAv y = .islc false false 1 (BL y) from rfl] at hey
  by_cases hxy : x = y
  ·rw [decide_eq_true hxy] at hby
   repeat' (first
    | refine qS ?_ | refine wo_lenG (n := a.length) rfl hml rfl rfl ?_ | refine wo_atG rfl rfl (by omega) hex rfl rfl ?_ | refine wo_atG rfl rfl (by omega) hey rfl rfl ?_
    | refine q_call hby ?_ | refine qQba ?_ | refine q_cmp2 (fun _ => ?_) (fun _ => ?_))
   exact ⟨hlt, hst.2 hxy, rfl, rfl, by show AV.int _ _ = AV.int _ _; congr 1, trivial⟩
  ·rw [decide_eq_false hxy] at hby
   repeat' (first
    | refine qS ?_ | refine wo_lenG (n := a.length) rfl hml rfl rfl ?_ | refine wo_atG rfl rfl (by omega) hex rfl rfl ?_ | refine wo_atG rfl rfl (by omega) hey rfl rfl ?_
    | refine q_call hby ?_ | refine qQba ?_ | refine q_cmp2 (fun _ => ?_) (fun _ => ?_))
   exact .inr ⟨rfl, rfl, fun h => hxy (hst.1 (by rw [h]))⟩
 ·skip
  repeat' (first | refine qS ?_ | refine wo_lenG (n := a.length) rfl hml rfl rfl ?_ | refine qQba ?_ | refine q_cmp2 (fun _ => ?_) (fun _ => ?_))
  have h1 := List.take_of_length_le (l := a) (i := i) (by omega)
  have h2 := List.take_of_length_le (l := b) (i := i) (by omega)
  exact .inl ⟨rfl, by rw [← h1, ← h2]; exact he⟩
theorem c_keep_Rows (k : Nat) (hk : 1000010 + 1 ≤ k) (t f t' f' : Bool) (s s' : Nat) (a b : List (List UInt8)) (ha : a.length < 1000000) (hb : b.length < 1000000) (hs : s = 1 ∨ a = []) (hs' : s' = 1 ∨ b = []) (hwa : ∀ x ∈ a, x.length < 1000000) (hwb : ∀ x ∈ b, x.length < 1000000) :
  FnV (CF k) n_keep_Rows [.islc t f s (a.map rowAv), .islc t' f' s' (b.map rowAv)] (.bool (decide (a = b))) := by
 refine fnk (by omega) B_keep_Rows rfl ?_
 unfold keep_Rows
 have hma : (a.map rowAv).length = a.length := List.length_map _
 have hmb : (b.map rowAv).length = b.length := List.length_map _
 by_cases hl : a.length = b.length
 ·have hl' : (a.length : Int) = (b.length : Int) := by omega
  repeat' (first | refine qS ?_ | refine wo_lenG (n := a.length) rfl hma rfl rfl ?_ | refine wo_lenG (n := b.length) rfl hmb rfl rfl ?_ | refine qQb ?_ | refine q_cmp2 (fun _ => ?_) (fun _ => ?_))
  refine W.mono (keep_Rows_loop (k := k - 1) (a := a) (b := b) (t := t) (f := f) (t' := t') (f' := f') (s := s) (s' := s') ha hs hs' hl hwa hwb (by omega) ⟨rfl, rfl, rfl, trivial⟩) ?_
  rintro ex T2 H2 (⟨rfl, he⟩ | ⟨rfl, h4, he⟩)
  ·rw [decide_eq_true he]
   show W _ _
   repeat' (first | refine qQb ?_ | refine q_cmp2 (fun _ => ?_) (fun _ => ?_))
   exact ⟨Or.inr rfl, _, rfl, rfl⟩
  ·rw [decide_eq_false he]
   refine ⟨Or.inr rfl, .bool false, ?_, rfl⟩
   show aresults T2 H2 [.tmp 4] = _
   simp only [aresults, ares, List.mapM_cons, List.mapM_nil, h4]; rfl
 ·have hl' : (a.length : Int) ≠ (b.length : Int) := by omega
  have hne : a ≠ b := fun h => hl (by rw [h])
  rw [decide_eq_false hne]
  repeat' (first | refine qS ?_ | refine wo_lenG (n := a.length) rfl hma rfl rfl ?_ | refine wo_lenG (n := b.length) rfl hmb rfl rfl ?_ | refine qQb ?_ | refine q_cmp2 (fun _ => ?_) (fun _ => ?_))
  exact ⟨Or.inr rfl, _, rfl, rfl⟩
theorem c_Snap (k : Nat) (hk : 1000020 ≤ k) (x y : SnapV) (hx : rowsOk x.sectors) (hy : rowsOk y.sectors) : FnV (CF k) n_keep_Snap [x.av, y.av] (.bool (decide (x = y))) := by
 have hr := c_keep_Rows (k - 1) (by omega) false false false false 1 1 x.sectors y.sectors hx.1 hy.1 (.inl rfl) (.inl rfl) hx.2 hy.2
 obtain ⟨a1, a2, a3, a4, a5⟩ := x
 obtain ⟨b1, b2, b3, b4, b5⟩ := y
 unfold SnapV.av rowsAv
 simp only at hr ⊢
 refine fnk (by omega) B_keep_Snap rfl ?_
 unfold keep_Snap
 by_cases h1 : a1 = b1
 rotate_left 1
 ·have h1' : (a1 : Int) ≠ b1 := by omega
  rw [decide_eq_false (by simp [h1])]
  repeat' (first | refine qS ?_ | refine qN ?_ | refine qQb ?_ | fail)
  exact ⟨Or.inr rfl, _, rfl, rfl⟩
 have h1' : (a1 : Int) = b1 := by omega
 by_cases h2 : a2 = b2
 rotate_left 1
 ·have h2' : (a2 : Int) ≠ b2 := by omega
  rw [decide_eq_false (by simp [h2])]
  repeat' (first | refine qS ?_ | refine qN ?_ | refine qQb ?_ | fail)
  exact ⟨Or.inr rfl, _, rfl, rfl⟩
 have h2' : (a2 : Int) = b2 := by omega
 by_cases h4 : a4 = b4
 rotate_left 1
 ·have h4' : (a4 : Int) ≠ b4 := by omega
  rw [decide_eq_false (by simp [h4])]
  repeat' (first | refine qS ?_ | refine qN ?_ | refine qQb ?_ | fail)
  exact ⟨Or.inr rfl, _, rfl, rfl⟩
 have h4' : (a4 : Int) = b4 := by omega
 by_cases h5 : a5 = b5
 rotate_left 1
 ·have h5' : (a5 : Int) ≠ b5 := by omega
  rw [decide_eq_false (by simp [h5])]
  repeat' (first | refine qS ?_ | refine qN ?_ | refine qQb ?_ | fail)
  exact ⟨Or.inr rfl, _, rfl, rfl⟩
 have h5' : (a5 : Int) = b5 := by omega
 have he : decide ((⟨a1, a2, a3, a4, a5⟩ : SnapV) = ⟨b1, b2, b3, b4, b5⟩) = decide (a3 = b3) := by
  simp [h1, h2, h4, h5]
 rw [he]
 cases hd : decide (a3 = b3) <;> rw [hd] at hr
 all_goals
  repeat' (first | refine qS ?_ | refine qN ?_ | refine q_call hr ?_ | refine qQb ?_ | fail)
 all_goals exact ⟨Or.inr rfl, _, rfl, rfl⟩
theorem keep_Snaps_loop {k : Nat} {H : Heap} {T : Tmps} {t f t' f' : Bool} {s s' : Nat} {a b : List SnapV} (ha : a.length < 1000000) (hs : s = 5 ∨ a = []) (hs' : s' = 5 ∨ b = []) (hl : a.length = b.length) (hwa : ∀ x ∈ a, rowsOk x.sectors) (hwb : ∀ x ∈ b, rowsOk x.sectors) (hk : 1000030 ≤ k)
  (hT : Has T [(0, .islc t f s (a.map SnapV.av)), (1, .islc t' f' s' (b.map SnapV.av)), (5, .int .i64 0)]) :
  W (aexec (CF k) noX 0 k (.loop keep_Snaps_l0) T H) (fun ex T' H' => (ex = .exit 0 ∧ a = b) ∨ (ex = .ret ∧ T' 4 = .bool false ∧ a ≠ b)) := by
 refine w_for a.length (fun i T' H' => a.take i = b.take i ∧ Has T' [(0, .islc t f s (a.map SnapV.av)), (1, .islc t' f' s' (b.map SnapV.av)), (5, .int .i64 (i : Nat))]) ⟨rfl, hT⟩ (by omega) ?_
 rintro i T H2 hi ⟨he, hT⟩
 rw [hT.eq]
 simp only [over]
 unfold keep_Snaps_l0
 have hml : (a.map SnapV.av).length = a.length := List.length_map _
 by_cases hlt : i < a.length
 ·obtain rfl : s = 5 := hs.resolve_right (fun h => by rw [h] at hlt; simp at hlt)
  have hbl : i < b.length := by omega
  obtain rfl : s' = 5 := hs'.resolve_right (fun h => by rw [h] at hbl; simp at hbl)
  obtain ⟨x, hx⟩ : ∃ x, x = a[i] := ⟨_, rfl⟩
  obtain ⟨y, hy⟩ : ∃ y, y = b[i] := ⟨_, rfl⟩
  have hxw := hwa a[i] (List.getElem_mem hlt)
  have hyw := hwb b[i] (List.getElem_mem hbl)
  rw [← hx] at hxw
  rw [← hy] at hyw
  have hby := c_Snap k (by omega) x y hxw hyw
  have hst : a.take (i + 1) = b.take (i + 1) ↔ x = y := by
   rw [List.take_succ_eq_append_getElem hlt, List.take_succ_eq_append_getElem hbl, ← hx, ← hy, he]
   simp
  have hex : (a.map SnapV.av)[(i : Int).toNat]? = some (SnapV.av x) := by
   rw [Int.toNat_natCast, List.getElem?_map, List.getElem?_eq_getElem hlt, ← hx]; rfl
  have hey : (b.map SnapV.av)[(i : Int).toNat]? = some (SnapV.av y) := by
   rw [Int.toNat_natCast, List.getElem?_map, List.getElem?_eq_getElem hbl, ← hy]; rfl
  rw [show SnapV.av x = .agg [.int .i64 x.id, .int .i64 x.parent, .islc false false 1 (x.sectors.map rowAv), .int .i64 x.frames, .int .i64 x.digest] from rfl] at hex hby
  rw [show SnapV.av y = .agg [.int .i64 y.id, .int .i64 y.parent, .islc false false 1 (y.sectors.map rowAv), .int .i64 y.frames, .int .i64 y.digest] from rfl] at hey hby
  by_cases hxy : x = y
  ·rw [decide_eq_true hxy] at hby
   repeat' (first
    | refine qS ?_ | refine wo_lenG (n := a.length) rfl hml rfl rfl ?_ | refine wo_atG rfl rfl (by omega) hex rfl rfl ?_ | refine wo_atG rfl rfl (by omega) hey rfl rfl ?_
    | refine q_call hby ?_ | refine qQba ?_ | refine q_cmp2 (fun _ => ?_) (fun _ => ?_))
   exact ⟨hlt, hst.2 hxy, rfl, rfl, by show AV.int _ _ = AV.int _ _; congr 1, trivial⟩
  ·rw [decide_eq_false hxy] at hby
   repeat' (first
    | refine qS ?_ | refine wo_lenG (n := a.length) rfl hml rfl rfl ?_ | refine wo_atG rfl rfl (by omega) hex rfl rfl ?_ | refine wo_atG rfl rfl (by omega) hey rfl rfl ?_
    | refine q_call hby ?_ | refine qQba ?_ | refine q_cmp2 (fun _ => ?_) (fun _ => ?_))
   exact .inr ⟨rfl, rfl, fun h => hxy (hst.1 (by rw [h]))⟩
 ·skip
  repeat' (first | refine qS ?_ | refine wo_lenG (n := a.length) rfl hml rfl rfl ?_ | refine qQba ?_ | refine q_cmp2 (fun _ => ?_) (fun _ => ?_))
  have h1 := List.take_of_length_le (l := a) (i := i) (by omega)
  have h2 := List.take_of_length_le (l := b) (i := i) (by omega)
  exact .inl ⟨rfl, by rw [← h1, ← h2]; exact he⟩
theorem c_keep_Snaps (k : Nat) (hk : 1000030 + 1 ≤ k) (t f t' f' : Bool) (s s' : Nat) (a b : List SnapV) (ha : a.length < 1000000) (hb : b.length < 1000000) (hs : s = 5 ∨ a = []) (hs' : s' = 5 ∨ b = []) (hwa : ∀ x ∈ a, rowsOk x.sectors) (hwb : ∀ x ∈ b, rowsOk x.sectors) :
  FnV (CF k) n_keep_Snaps [.islc t f s (a.map SnapV.av), .islc t' f' s' (b.map SnapV.av)] (.bool (decide (a = b))) := by
 refine fnk (by omega) B_keep_Snaps rfl ?_
 unfold keep_Snaps
 have hma : (a.map SnapV.av).length = a.length := List.length_map _
 have hmb : (b.map SnapV.av).length = b.length := List.length_map _
 by_cases hl : a.length = b.length
 ·have hl' : (a.length : Int) = (b.length : Int) := by omega
  repeat' (first | refine qS ?_ | refine wo_lenG (n := a.length) rfl hma rfl rfl ?_ | refine wo_lenG (n := b.length) rfl hmb rfl rfl ?_ | refine qQb ?_ | refine q_cmp2 (fun _ => ?_) (fun _ => ?_))
  refine W.mono (keep_Snaps_loop (k := k - 1) (a := a) (b := b) (t := t) (f := f) (t' := t') (f' := f') (s := s) (s' := s') ha hs hs' hl hwa hwb (by omega) ⟨rfl, rfl, rfl, trivial⟩) ?_
  rintro ex T2 H2 (⟨rfl, he⟩ | ⟨rfl, h4, he⟩)
  ·rw [decide_eq_true he]
   show W _ _
   repeat' (first | refine qQb ?_ | refine q_cmp2 (fun _ => ?_) (fun _ => ?_))
   exact ⟨Or.inr rfl, _, rfl, rfl⟩
  ·rw [decide_eq_false he]
   refine ⟨Or.inr rfl, .bool false, ?_, rfl⟩
   show aresults T2 H2 [.tmp 4] = _
   simp only [aresults, ares, List.mapM_cons, List.mapM_nil, h4]; rfl
 ·have hl' : (a.length : Int) ≠ (b.length : Int) := by omega
  have hne : a ≠ b := fun h => hl (by rw [h])
  rw [decide_eq_false hne]
  repeat' (first | refine qS ?_ | refine wo_lenG (n := a.length) rfl hma rfl rfl ?_ | refine wo_lenG (n := b.length) rfl hmb rfl rfl ?_ | refine qQb ?_ | refine q_cmp2 (fun _ => ?_) (fun _ => ?_))
  exact ⟨Or.inr rfl, _, rfl, rfl⟩
theorem c_View (k : Nat) (hk : 1000040 ≤ k) (x y : ViewV) (hx : x.ok) (hy : y.ok) : FnV (CF k) n_keep_View [x.av, y.av] (.bool (decide (x = y))) := by
 obtain ⟨⟨p1, p2⟩, ⟨p3, p4⟩, p5, p6⟩ := hx
 obtain ⟨⟨q1, q2⟩, ⟨q3, q4⟩, q5, q6⟩ := hy
 obtain ⟨a1, a2, a3⟩ := x
 obtain ⟨b1, b2, b3⟩ := y
 simp only at p1 p2 p3 p4 p5 p6 q1 q2 q3 q4 q5 q6
 obtain ⟨fa2, sa2, ea2, ha2⟩ := snapsAvF a2
 obtain ⟨fa3, sa3, ea3, ha3⟩ := snapsAvF a3
 obtain ⟨fb2, sb2, eb2, hb2⟩ := snapsAvF b2
 obtain ⟨fb3, sb3, eb3, hb3⟩ := snapsAvF b3
 have h1 := c_keep_Rows (k - 1) (by omega) false false false false 1 1 a1 b1 p1 q1 (.inl rfl) (.inl rfl) p2 q2
 have h2 := c_keep_Snaps (k - 1) (by omega) false fa2 false fb2 sa2 sb2 a2 b2 p3 q3 ha2 hb2 p4 q4
 have h3 := c_keep_Snaps (k - 1) (by omega) false fa3 false fb3 sa3 sb3 a3 b3 p5 q5 ha3 hb3 p6 q6
 unfold ViewV.av ViewV.cs rowsAv
 simp only
 rw [ea2, ea3, eb2, eb3]
 refine fnk (by omega) B_keep_View rfl ?_
 unfold keep_View
 have he : decide ((⟨a1, a2, a3⟩ : ViewV) = ⟨b1, b2, b3⟩) = (decide (a1 = b1) && decide (a2 = b2) && decide (a3 = b3)) := by
  rw [Bool.eq_iff_iff]; simp [and_assoc]
 rw [he]
 cases d1 : decide (a1 = b1) <;> rw [d1] at h1
 ·skip
  repeat' (first | refine qS ?_ | refine qN ?_ | refine q_call h1 ?_ | refine qQb ?_ | fail)
  exact ⟨Or.inr rfl, _, rfl, rfl⟩
 cases d2 : decide (a2 = b2) <;> rw [d2] at h2
 ·skip
  repeat' (first | refine qS ?_ | refine qN ?_ | refine q_call h1 ?_ | refine q_call h2 ?_ | refine qQb ?_ | fail)
  exact ⟨Or.inr rfl, _, rfl, rfl⟩
 cases d3 : decide (a3 = b3) <;> rw [d3] at h3
 all_goals
  repeat' (first | refine qS ?_ | refine qN ?_ | refine q_call h1 ?_ | refine q_call h2 ?_ | refine q_call h3 ?_ | refine qQb ?_ | fail)
 all_goals exact ⟨Or.inr rfl, _, rfl, rfl⟩
end Go.Proofs.YtkaiiopoilpjeaaGreat
set_option linter.unusedSimpArgs false
set_option linter.unusedVariables false
set_option maxRecDepth 10000
set_option maxHeartbeats 16000000
namespace Go.Proofs.YtkaiiopoilpjeaaGreat
open Go.AI
theorem fz_sn {b : Nat} {H : Heap} {S : List SnapV} (h : SnAt b H S) (n : Nat) : fz true (n + 4) H (snAv b S.length) = snapsAv S := by
 unfold snAv snapsAv
 unfold SnAt at h
 by_cases h0 : S = []
 ·subst h0; rfl
 ·rw [if_neg h0] at h ⊢
  rw [if_neg (fun hh => h0 (List.length_eq_zero_iff.1 hh))]
  have e : (S.map SnapV.av).map (fz true (n + 3) H) = S.map SnapV.av := by
   rw [List.map_map]
   exact List.map_congr_left fun s _ => rfl
  show fz true (n + 3 + 1) H _ = _
  rw [fz_slc (row_of h (by simp)) (by omega), List.drop_zero, List.take_of_length_le (by simp), e]
  rfl
theorem img_m {l : List UInt8} {x : Img} (hx : x.fit l) : ∀ w ∈ x.trees, w.m.length = 512 ∧ ∀ a ∈ w.m, a < nb l := fun w hw => ⟨(hx.tree w hw).1.1.1, (hx.tree w hw).1.1.2.1⟩
attribute [local irreducible] aops aexec acall aiter aop W WO
theorem c_view_Of (k : Nat) (hk : 1000200 ≤ k) (f : Bool) (l : List UInt8) (hl : l.length < 1000000) : FnV (CF k) n_view_Of [.islc false f 1 (BL l)] (viewQ l (lookQ l)) := by
 have hlk := c_LookQ (k - 1) (by omega) f l hl
 refine fnk (by omega) B_view_Of rfl ?_
 unfold view_Of
 cases h : lookQ l with
 | error p =>
  obtain ⟨a, e⟩ := p
  have he := lookQ_err h
  rw [h] at hlk
  unfold lookAv at hlk
  unfold viewQ
  simp only at hlk ⊢
  have he0 : (e : Int) ≠ 0 := by omega
  repeat' (first | refine q_callB (hlk) (fun _ => ?_) (fun _ => ?_) | refine q_call (hlk) ?_ | refine qQb ?_ | refine q_cmp2 (fun _ => ?_) (fun _ => ?_) | refine q_app fun _ => ?_)
  exact ⟨Or.inr rfl, _, rfl, rfl⟩
 | ok x =>
  rw [h] at hlk
  obtain ⟨hd, hx⟩ := lookQ_ok hl h
  have hm := img_m hx
  have hfew := hx.few
  have htl := hx.trees
  have hrok := hx.recs
  have hsz := hx.sup.2.2.1
  obtain ⟨f1, s1, hr, hs1⟩ := rIvF x.recs
  obtain ⟨f2, s2, hb, hs2⟩ := nodesIvF x.blocks
  unfold lookAv Img.cs at hlk
  unfold viewQ viewP ViewV.cs
  simp only at hlk ⊢
  rw [hr, hb] at hlk
  cases hts : x.trees with
  | nil => rw [hts] at htl; simp at htl
  | cons w0 ws =>
   rw [hts] at hlk hm htl
   have hw0 := hm w0 (by simp)
   have hse := c_view_sectors (k - 1) (by omega) f false false l hd w0.m hw0.2 (by rw [hw0.1]; decide) x.sup.size (by rw [hw0.1]; exact hsz)
   unfold rowsAv at hse
   have he0 : ((w0 :: ws).map (WS.iv f l))[(0 : Int).toNat]? = some (.iptr false [.islc false f 1 (BL l), .int .i64 (nb l : Nat), .islc false false 1 (NL w0.m), nodesIv false w0.nodes, .bool w0.bad]) := rfl
   have hrl : (x.recs.map Rec.av).length = x.recs.length := List.length_map _
   generalize hR : secsP l w0.m x.sup.size = R at *
   repeat' (first
    | refine qS ?_ | refine q_nilcI ?_ | refine wo_atG rfl rfl (by decide) he0 rfl rfl ?_ | refine q_call hse ?_
    | refine q_build (cs := [.islc false false 1 (R.map rowAv), .islc false true 0 [], .islc false true 0 []]) ?_ (hc := by kernel_rfl) | refine q_box ?_ (hl := by kernel_rfl)
    | refine wo_lenG (n := x.recs.length) rfl hrl rfl rfl ?_ | refine q_callB (hlk) (fun _ => ?_) (fun _ => ?_) | refine q_call (hlk) ?_ | refine qQb ?_
    | refine q_cmp2 (fun _ => ?_) (fun _ => ?_) | refine q_app fun _ => ?_)
   refine W.mono (of_loop (k := k - 1) (l := l) (f := f) (f' := f1) (s' := s1) (recs := x.recs) (ws := ws) (w0 := w0) (c0 := .int .i64 x.sup.gen) (c1 := .int .i64 x.sup.blocks) (c2 := .int .i64 x.sup.root) (c3 := .int .i64 x.sup.size) (c4 := .int .i64 x.sup.first) (c5 := .int .i64 x.slot) (bv := .islc false f2 s2 (NL x.blocks)) (hd := .islc false false 1 (R.map rowAv)) (by omega) hd hs1 (by omega) (by simpa using htl) (fun w hw => hm w (by simp [hw])) (fun r hr => (hrok r hr).2.2.2.1) ?_ ?_ ?_ ?_) ?_
   ·rfl
   ·rfl
   ·rfl
   ·exact ⟨rfl, rfl, rfl, rfl, rfl, rfl, rfl, trivial⟩
   rintro ex T2 H2 ⟨rfl, g0, g1, g7, g5, h2, h7⟩
   rw [Has.eq (T := T2) (ps := [(2, _), (7, _)]) ⟨h2, h7, trivial⟩]
   simp only [over]
   show W _ _
   have g0' : H2 0 = ⟨1, false, .row 3 [.agg [.islc false true 0 [], .islc false true 0 [], .islc false true 0 []]]⟩ := g0.trans rfl
   repeat' (first | refine qS ?_ | refine q_loadR ?_ (hr := by exact g1) | refine q_storeR ?_ (hr := by exact g0') | refine qQb ?_ | refine q_cmp2 (fun _ => ?_) (fun _ => ?_) | refine q_app fun _ => ?_)
   refine ⟨Or.inr rfl, .tup [.agg [.islc false false 1 (R.map rowAv), snAv 7 (snapsT l (x.recs.zip ws)).length, snAv 5 (opensT l (x.recs.zip ws)).length], .int .i64 0], rfl, ?_⟩
   show AV.tup [.agg [_, fz true 4 _ (snAv 7 _), fz true 4 _ (snAv 5 _)], _] = _
   have hup : ∀ (v : Blk) b (S : List SnapV), b ≠ 0 → SnAt b H2 S → SnAt b (H2.upd 0 v) S := by
    intro v b S hb0 hS
    unfold SnAt at hS ⊢
    rw [Heap.upd_eq, if_neg hb0]; exact hS
   rw [fz_sn (hup _ 7 _ (by decide) g7) 0, fz_sn (hup _ 5 _ (by decide) g5) 0]
   unfold rowsAv snapsT opensT
   simp only [List.headD_cons, List.tail_cons, hR]
   rfl
def soundP (l : List UInt8) : Bool := match lookQ l with | .ok _ => true | .error _ => false
theorem c_Sound (k : Nat) (hk : 1000200 ≤ k) (f : Bool) (l : List UInt8) (hl : l.length < 1000000) : FnV (CF k) n_fsck_Sound [.islc false f 1 (BL l)] (.bool (soundP l)) := by
 have hlk := c_LookQ (k - 2) (by omega) f l hl
 cases h : lookQ l with
 | error p =>
  obtain ⟨a, e⟩ := p
  have he := lookQ_err h
  rw [h] at hlk
  unfold lookAv at hlk
  have hsp : soundP l = false := by unfold soundP; rw [h]
  rw [hsp]
  simp only at hlk
  have he0 : (e : Int) ≠ 0 := by omega
  have hck : FnV (CF (k - 1)) n_fsck_Check [.islc false f 1 (BL l)] (.islc false false 2 [.agg [.int .i64 a, .int .i64 e]]) := by
   refine fnk (by omega) B_fsck_Check rfl ?_
   rw [show k - 1 - 1 = k - 2 by omega]
   unfold fsck_Check
   repeat' (first | refine q_callB (hlk) (fun _ => ?_) (fun _ => ?_) | refine q_call (hlk) ?_ | refine qQb ?_ | refine q_cmp2 (fun _ => ?_) (fun _ => ?_))
   exact ⟨Or.inr rfl, _, rfl, rfl⟩
  refine fnk (by omega) B_fsck_Sound rfl ?_
  unfold fsck_Sound
  repeat' (first | refine qS ?_ | refine wo_lenG (n := 1) rfl rfl rfl rfl ?_ | refine q_callB (hck) (fun _ => ?_) (fun _ => ?_) | refine q_call (hck) ?_ | refine qQb ?_ | refine q_cmp2 (fun _ => ?_) (fun _ => ?_))
  exact ⟨Or.inr rfl, _, rfl, rfl⟩
 | ok x =>
  rw [h] at hlk
  obtain ⟨f1, s1, hr, hs1⟩ := rIvF x.recs
  obtain ⟨f2, s2, hb, hs2⟩ := nodesIvF x.blocks
  unfold lookAv Img.cs at hlk
  simp only at hlk
  rw [hr, hb] at hlk
  have hsp : soundP l = true := by unfold soundP; rw [h]
  rw [hsp]
  have hck : FnV (CF (k - 1)) n_fsck_Check [.islc false f 1 (BL l)] (.islc false true 0 []) := by
   refine fnk (by omega) B_fsck_Check rfl ?_
   rw [show k - 1 - 1 = k - 2 by omega]
   unfold fsck_Check
   repeat' (first | refine q_callB (hlk) (fun _ => ?_) (fun _ => ?_) | refine q_call (hlk) ?_ | refine qQb ?_ | refine q_cmp2 (fun _ => ?_) (fun _ => ?_))
   exact ⟨Or.inr rfl, _, rfl, rfl⟩
  refine fnk (by omega) B_fsck_Sound rfl ?_
  unfold fsck_Sound
  repeat' (first | refine qS ?_ | refine wo_lenG (n := 0) rfl rfl rfl rfl ?_ | refine q_callB (hck) (fun _ => ?_) (fun _ => ?_) | refine q_call (hck) ?_ | refine qQb ?_ | refine q_cmp2 (fun _ => ?_) (fun _ => ?_))
  exact ⟨Or.inr rfl, _, rfl, rfl⟩
end Go.Proofs.YtkaiiopoilpjeaaGreat
set_option linter.unusedSimpArgs false
set_option linter.unusedVariables false
set_option maxRecDepth 10000
set_option maxHeartbeats 16000000
namespace Go.Proofs.YtkaiiopoilpjeaaGreat
open Go.AI
theorem viewP_ok {l : List UInt8} {x : Img} (hd : Dev l) (hx : x.fit l) : (viewP l x).ok := by
 have hm := img_m hx
 have hf := hx.few
 have hsec : ∀ {m : List Nat} (n : Nat), m.length = 512 → (∀ a ∈ m, a < nb l) → rowsOk (secsP l m n) := by
  intro m n h1 h2
  unfold rowsOk secsP
  refine ⟨by rw [List.length_map, List.length_take]; omega, fun r hr => ?_⟩
  obtain ⟨a, ha, rfl⟩ := List.mem_map.1 hr
  rw [secB_len fun _ => hd.le (h2 a (List.mem_of_mem_take ha))]; decide
 have hz : ∀ p ∈ x.recs.zip x.trees.tail, p.2 ∈ x.trees := fun p hp => List.mem_of_mem_tail (List.of_mem_zip hp).2
 have hzl : (x.recs.zip x.trees.tail).length ≤ 61 := by rw [List.length_zip]; omega
 unfold viewP ViewV.ok
 refine ⟨?_, ⟨?_, ?_⟩, ?_, ?_⟩
 ·cases ht : x.trees with
  | nil => have := hx.trees; rw [ht] at this; simp at this
  | cons w ws => have := hm w (by rw [ht]; simp); exact hsec _ this.1 this.2
 ·rw [List.length_map]; have := List.length_filter_le (fun p => !pendR p) (x.recs.zip x.trees.tail); omega
 ·intro s hs
  obtain ⟨p, hp, rfl⟩ := List.mem_map.1 hs
  have := hm p.2 (hz p (List.mem_filter.1 hp).1)
  exact hsec _ this.1 this.2
 ·rw [List.length_map]; have := List.length_filter_le pendR (x.recs.zip x.trees.tail); omega
 ·intro s hs
  obtain ⟨p, hp, rfl⟩ := List.mem_map.1 hs
  have := hm p.2 (hz p (List.mem_filter.1 hp).1)
  exact hsec _ this.1 this.2
attribute [local irreducible] aops aexec acall aiter aop W WO
end Go.Proofs.YtkaiiopoilpjeaaGreat
