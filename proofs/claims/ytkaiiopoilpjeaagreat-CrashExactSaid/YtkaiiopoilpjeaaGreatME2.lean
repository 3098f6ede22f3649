/- Lemmas. -/
import Derived.Test.YtkaiiopoilpjeaaGreatME1
import Derived.Test.YtkaiiopoilpjeaaGreatMD1
import Derived.Test.YtkaiiopoilpjeaaGreatMJ4
import Derived.Test.YtkaiiopoilpjeaaGreatMN
set_option linter.unusedSimpArgs false
set_option linter.unusedVariables false
set_option maxRecDepth 10000
set_option maxHeartbeats 16000000
namespace Go.Proofs.YtkaiiopoilpjeaaGreat
open Go.AI
def Tt (r : List (List UInt8)) : Prop := r.length < 1000000 ∧ ∀ x ∈ r, x.length < 1000000
def ViewV.ok (v : ViewV) : Prop := Tt v.head ∧ (v.snaps.length < 1000000 ∧ ∀ s ∈ v.snaps, Tt s.sectors) ∧ v.opens.length < 1000000 ∧ ∀ s ∈ v.opens, Tt s.sectors
instance : DecidableEq SnapV := fun ⟨a, b, c, d, e⟩ ⟨a', b', c', d', e'⟩ => decidable_of_iff (a = a' ∧ b = b' ∧ c = c' ∧ d = d' ∧ e = e') (by simp)
instance : DecidableEq ViewV := fun ⟨a, b, c⟩ ⟨a', b', c'⟩ => decidable_of_iff (a = a' ∧ b = b' ∧ c = c') (by simp)
def ViewV.av (v : ViewV) : AV := .agg v.cs
attribute [local irreducible] aops Br Cp Dp aop W WO
theorem rE {k : Nat} {H : Heap} {T : Tmps} {t f t' f' : Bool} {s s' : Nat} {a b : List (List UInt8)} (ha : a.length < 1000000) (hs : s = 1 ∨ a = []) (hs' : s' = 1 ∨ b = []) (hl : a.length = b.length) (hwa : ∀ x ∈ a, x.length < 1000000) (hwb : ∀ x ∈ b, x.length < 1000000) (hk : 1000010 ≤ k)
  (hT : Has T [(0, .islc t f s (a.map Hq)), (1, .islc t' f' s' (b.map Hq)), (5, .int .i64 0)]) :
  W (Br (CF k) noX 0 k (.loop gT) T H) (fun ex T' H' => (ex = .exit 0 ∧ a = b) ∨ (ex = .ret ∧ T' 4 = .bool false ∧ a ≠ b)) := by
 refine Fj a.length (fun i T' H' => a.take i = b.take i ∧ Has T' [(0, .islc t f s (a.map Hq)), (1, .islc t' f' s' (b.map Hq)), (5, .int .i64 (i : Nat))]) ⟨rfl, hT⟩ (by omega) ?_
 rintro i T H2 hi ⟨he, hT⟩
 rw [hT.eq]
 simp only [over]
 unfold gT
 have hml : (a.map Hq).length = a.length := Ah _
 by_cases hlt : i < a.length
 ·obtain rfl : s = 1 := hs.resolve_right (fun h => by rw [h] at hlt; simp at hlt)
  have hbl : i < b.length := by omega
  obtain rfl : s' = 1 := hs'.resolve_right (fun h => by rw [h] at hbl; simp at hbl)
  obtain ⟨x, hx⟩ : ∃ x, x = a[i] := ⟨_, rfl⟩
  obtain ⟨y, hy⟩ : ∃ y, y = b[i] := ⟨_, rfl⟩
  have hxw := hwa a[i] (Bw hlt)
  have hyw := hwb b[i] (Bw hbl)
  rw [← hx] at hxw
  rw [← hy] at hyw
  have hby := Atq k (by omega) false false false false 1 1 x y hxw hyw (.inl rfl) (.inl rfl)
  have hst : a.take (i + 1) = b.take (i + 1) ↔ x = y := by
   rw [Av hlt, Av hbl, ← hx, ← hy, he]
   simp
  have hex : (a.map Hq)[(i : Int).toNat]? = some (Hq x) := by
   rw [Bd, Bp, Aa hlt, ← hx]; rfl
  have hey : (b.map Hq)[(i : Int).toNat]? = some (Hq y) := by
   rw [Bd, Bp, Aa hbl, ← hy]; rfl
  rw [show Hq x = .islc false false 1 (BL x) from rfl] at hex
  rw [show Hq y = .islc false false 1 (BL y) from rfl] at hey
  by_cases hxy : x = y
  ·rw [As hxy] at hby
   repeat' (first
    | refine qS ?_ | refine Bh (n := a.length) rfl hml rfl rfl ?_ | refine Da rfl rfl (by omega) hex rfl rfl ?_ | refine Da rfl rfl (by omega) hey rfl rfl ?_
    | refine Ae hby ?_ | refine qQba ?_ | refine Ac (fun _ => ?_) (fun _ => ?_))
   exact ⟨hlt, hst.2 hxy, rfl, rfl, by show AV.int _ _ = AV.int _ _; congr 1, trivial⟩
  ·rw [Bb hxy] at hby
   repeat' (first
    | refine qS ?_ | refine Bh (n := a.length) rfl hml rfl rfl ?_ | refine Da rfl rfl (by omega) hex rfl rfl ?_ | refine Da rfl rfl (by omega) hey rfl rfl ?_
    | refine Ae hby ?_ | refine qQba ?_ | refine Ac (fun _ => ?_) (fun _ => ?_))
   exact .inr ⟨rfl, rfl, fun h => hxy (hst.1 (by rw [h]))⟩
 ·skip
  repeat' (first | refine qS ?_ | refine Bh (n := a.length) rfl hml rfl rfl ?_ | refine qQba ?_ | refine Ac (fun _ => ?_) (fun _ => ?_))
  have h1 := Ai (l := a) (i := i) (by omega)
  have h2 := Ai (l := b) (i := i) (by omega)
  exact .inl ⟨rfl, by rw [← h1, ← h2]; exact he⟩
theorem lR (k : Nat) (hk : 1000010 + 1 ≤ k) (t f t' f' : Bool) (s s' : Nat) (a b : List (List UInt8)) (ha : a.length < 1000000) (hb : b.length < 1000000) (hs : s = 1 ∨ a = []) (hs' : s' = 1 ∨ b = []) (hwa : ∀ x ∈ a, x.length < 1000000) (hwb : ∀ x ∈ b, x.length < 1000000) :
  FnV (CF k) mL [.islc t f s (a.map Hq), .islc t' f' s' (b.map Hq)] (.bool (decide (a = b))) := by
 refine fnk (by omega) Ach rfl ?_
 unfold keep_Rows
 have hma : (a.map Hq).length = a.length := Ah _
 have hmb : (b.map Hq).length = b.length := Ah _
 by_cases hl : a.length = b.length
 ·have hl' : (a.length : Int) = (b.length : Int) := by omega
  repeat' (first | refine qS ?_ | refine Bh (n := a.length) rfl hma rfl rfl ?_ | refine Bh (n := b.length) rfl hmb rfl rfl ?_ | refine qQb ?_ | refine Ac (fun _ => ?_) (fun _ => ?_))
  refine W.mono (rE (k := k - 1) (a := a) (b := b) (t := t) (f := f) (t' := t') (f' := f') (s := s) (s' := s') ha hs hs' hl hwa hwb (by omega) ⟨rfl, rfl, rfl, trivial⟩) ?_
  rintro ex T2 H2 (⟨rfl, he⟩ | ⟨rfl, h4, he⟩)
  ·rw [As he]
   show W _ _
   repeat' (first | refine qQb ?_ | refine Ac (fun _ => ?_) (fun _ => ?_))
   exact ⟨Or.inr rfl, _, rfl, rfl⟩
  ·rw [Bb he]
   refine ⟨Or.inr rfl, .bool false, ?_, rfl⟩
   show Ia T2 H2 [.tmp 4] = _
   simp only [Ia, ares, Rb, Afc, h4]; rfl
 ·have hl' : (a.length : Int) ≠ (b.length : Int) := by omega
  have hne : a ≠ b := fun h => hl (by rw [h])
  rw [Bb hne]
  repeat' (first | refine qS ?_ | refine Bh (n := a.length) rfl hma rfl rfl ?_ | refine Bh (n := b.length) rfl hmb rfl rfl ?_ | refine qQb ?_ | refine Ac (fun _ => ?_) (fun _ => ?_))
  exact ⟨Or.inr rfl, _, rfl, rfl⟩
theorem Awy (k : Nat) (hk : 1000020 ≤ k) (x y : SnapV) (hx : Tt x.sectors) (hy : Tt y.sectors) : FnV (CF k) lQ [x.av, y.av] (.bool (decide (x = y))) := by
 have hr := lR (k - 1) (by omega) false false false false 1 1 x.sectors y.sectors hx.1 hy.1 (.inl rfl) (.inl rfl) hx.2 hy.2
 obtain ⟨a1, a2, a3, a4, a5⟩ := x
 obtain ⟨b1, b2, b3, b4, b5⟩ := y
 unfold SnapV.av Vj
 simp only at hr ⊢
 refine fnk (by omega) Acw rfl ?_
 unfold lH
 by_cases h1 : a1 = b1
 rotate_left 1
 ·have h1' : (a1 : Int) ≠ b1 := by omega
  rw [Bb (by simp [h1])]
  repeat' (first | refine qS ?_ | refine qN ?_ | refine qQb ?_ | fail)
  exact ⟨Or.inr rfl, _, rfl, rfl⟩
 have h1' : (a1 : Int) = b1 := by omega
 by_cases h2 : a2 = b2
 rotate_left 1
 ·have h2' : (a2 : Int) ≠ b2 := by omega
  rw [Bb (by simp [h2])]
  repeat' (first | refine qS ?_ | refine qN ?_ | refine qQb ?_ | fail)
  exact ⟨Or.inr rfl, _, rfl, rfl⟩
 have h2' : (a2 : Int) = b2 := by omega
 by_cases h4 : a4 = b4
 rotate_left 1
 ·have h4' : (a4 : Int) ≠ b4 := by omega
  rw [Bb (by simp [h4])]
  repeat' (first | refine qS ?_ | refine qN ?_ | refine qQb ?_ | fail)
  exact ⟨Or.inr rfl, _, rfl, rfl⟩
 have h4' : (a4 : Int) = b4 := by omega
 by_cases h5 : a5 = b5
 rotate_left 1
 ·have h5' : (a5 : Int) ≠ b5 := by omega
  rw [Bb (by simp [h5])]
  repeat' (first | refine qS ?_ | refine qN ?_ | refine qQb ?_ | fail)
  exact ⟨Or.inr rfl, _, rfl, rfl⟩
 have h5' : (a5 : Int) = b5 := by omega
 have he : decide ((⟨a1, a2, a3, a4, a5⟩ : SnapV) = ⟨b1, b2, b3, b4, b5⟩) = decide (a3 = b3) := by
  simp [h1, h2, h4, h5]
 rw [he]
 cases hd : decide (a3 = b3) <;> rw [hd] at hr
 all_goals
  repeat' (first | refine qS ?_ | refine qN ?_ | refine Ae hr ?_ | refine qQb ?_ | fail)
 all_goals exact ⟨Or.inr rfl, _, rfl, rfl⟩
theorem nJ {k : Nat} {H : Heap} {T : Tmps} {t f t' f' : Bool} {s s' : Nat} {a b : List SnapV} (ha : a.length < 1000000) (hs : s = 5 ∨ a = []) (hs' : s' = 5 ∨ b = []) (hl : a.length = b.length) (hwa : ∀ x ∈ a, Tt x.sectors) (hwb : ∀ x ∈ b, Tt x.sectors) (hk : 1000030 ≤ k)
  (hT : Has T [(0, .islc t f s (a.map SnapV.av)), (1, .islc t' f' s' (b.map SnapV.av)), (5, .int .i64 0)]) :
  W (Br (CF k) noX 0 k (.loop dL) T H) (fun ex T' H' => (ex = .exit 0 ∧ a = b) ∨ (ex = .ret ∧ T' 4 = .bool false ∧ a ≠ b)) := by
 refine Fj a.length (fun i T' H' => a.take i = b.take i ∧ Has T' [(0, .islc t f s (a.map SnapV.av)), (1, .islc t' f' s' (b.map SnapV.av)), (5, .int .i64 (i : Nat))]) ⟨rfl, hT⟩ (by omega) ?_
 rintro i T H2 hi ⟨he, hT⟩
 rw [hT.eq]
 simp only [over]
 unfold dL
 have hml : (a.map SnapV.av).length = a.length := Ah _
 by_cases hlt : i < a.length
 ·obtain rfl : s = 5 := hs.resolve_right (fun h => by rw [h] at hlt; simp at hlt)
  have hbl : i < b.length := by omega
  obtain rfl : s' = 5 := hs'.resolve_right (fun h => by rw [h] at hbl; simp at hbl)
  obtain ⟨x, hx⟩ : ∃ x, x = a[i] := ⟨_, rfl⟩
  obtain ⟨y, hy⟩ : ∃ y, y = b[i] := ⟨_, rfl⟩
  have hxw := hwa a[i] (Bw hlt)
  have hyw := hwb b[i] (Bw hbl)
  rw [← hx] at hxw
  rw [← hy] at hyw
  have hby := Awy k (by omega) x y hxw hyw
  have hst : a.take (i + 1) = b.take (i + 1) ↔ x = y := by
   rw [Av hlt, Av hbl, ← hx, ← hy, he]
   simp
  have hex : (a.map SnapV.av)[(i : Int).toNat]? = some (SnapV.av x) := by
   rw [Bd, Bp, Aa hlt, ← hx]; rfl
  have hey : (b.map SnapV.av)[(i : Int).toNat]? = some (SnapV.av y) := by
   rw [Bd, Bp, Aa hbl, ← hy]; rfl
  rw [show SnapV.av x = .agg [.int .i64 x.id, .int .i64 x.parent, .islc false false 1 (x.sectors.map Hq), .int .i64 x.frames, .int .i64 x.digest] from rfl] at hex hby
  rw [show SnapV.av y = .agg [.int .i64 y.id, .int .i64 y.parent, .islc false false 1 (y.sectors.map Hq), .int .i64 y.frames, .int .i64 y.digest] from rfl] at hey hby
  by_cases hxy : x = y
  ·rw [As hxy] at hby
   repeat' (first
    | refine qS ?_ | refine Bh (n := a.length) rfl hml rfl rfl ?_ | refine Da rfl rfl (by omega) hex rfl rfl ?_ | refine Da rfl rfl (by omega) hey rfl rfl ?_
    | refine Ae hby ?_ | refine qQba ?_ | refine Ac (fun _ => ?_) (fun _ => ?_))
   exact ⟨hlt, hst.2 hxy, rfl, rfl, by show AV.int _ _ = AV.int _ _; congr 1, trivial⟩
  ·rw [Bb hxy] at hby
   repeat' (first
    | refine qS ?_ | refine Bh (n := a.length) rfl hml rfl rfl ?_ | refine Da rfl rfl (by omega) hex rfl rfl ?_ | refine Da rfl rfl (by omega) hey rfl rfl ?_
    | refine Ae hby ?_ | refine qQba ?_ | refine Ac (fun _ => ?_) (fun _ => ?_))
   exact .inr ⟨rfl, rfl, fun h => hxy (hst.1 (by rw [h]))⟩
 ·skip
  repeat' (first | refine qS ?_ | refine Bh (n := a.length) rfl hml rfl rfl ?_ | refine qQba ?_ | refine Ac (fun _ => ?_) (fun _ => ?_))
  have h1 := Ai (l := a) (i := i) (by omega)
  have h2 := Ai (l := b) (i := i) (by omega)
  exact .inl ⟨rfl, by rw [← h1, ← h2]; exact he⟩
theorem iQ (k : Nat) (hk : 1000030 + 1 ≤ k) (t f t' f' : Bool) (s s' : Nat) (a b : List SnapV) (ha : a.length < 1000000) (hb : b.length < 1000000) (hs : s = 5 ∨ a = []) (hs' : s' = 5 ∨ b = []) (hwa : ∀ x ∈ a, Tt x.sectors) (hwb : ∀ x ∈ b, Tt x.sectors) :
  FnV (CF k) iI [.islc t f s (a.map SnapV.av), .islc t' f' s' (b.map SnapV.av)] (.bool (decide (a = b))) := by
 refine fnk (by omega) Aab rfl ?_
 unfold keep_Snaps
 have hma : (a.map SnapV.av).length = a.length := Ah _
 have hmb : (b.map SnapV.av).length = b.length := Ah _
 by_cases hl : a.length = b.length
 ·have hl' : (a.length : Int) = (b.length : Int) := by omega
  repeat' (first | refine qS ?_ | refine Bh (n := a.length) rfl hma rfl rfl ?_ | refine Bh (n := b.length) rfl hmb rfl rfl ?_ | refine qQb ?_ | refine Ac (fun _ => ?_) (fun _ => ?_))
  refine W.mono (nJ (k := k - 1) (a := a) (b := b) (t := t) (f := f) (t' := t') (f' := f') (s := s) (s' := s') ha hs hs' hl hwa hwb (by omega) ⟨rfl, rfl, rfl, trivial⟩) ?_
  rintro ex T2 H2 (⟨rfl, he⟩ | ⟨rfl, h4, he⟩)
  ·rw [As he]
   show W _ _
   repeat' (first | refine qQb ?_ | refine Ac (fun _ => ?_) (fun _ => ?_))
   exact ⟨Or.inr rfl, _, rfl, rfl⟩
  ·rw [Bb he]
   refine ⟨Or.inr rfl, .bool false, ?_, rfl⟩
   show Ia T2 H2 [.tmp 4] = _
   simp only [Ia, ares, Rb, Afc, h4]; rfl
 ·have hl' : (a.length : Int) ≠ (b.length : Int) := by omega
  have hne : a ≠ b := fun h => hl (by rw [h])
  rw [Bb hne]
  repeat' (first | refine qS ?_ | refine Bh (n := a.length) rfl hma rfl rfl ?_ | refine Bh (n := b.length) rfl hmb rfl rfl ?_ | refine qQb ?_ | refine Ac (fun _ => ?_) (fun _ => ?_))
  exact ⟨Or.inr rfl, _, rfl, rfl⟩
theorem Avs (k : Nat) (hk : 1000040 ≤ k) (x y : ViewV) (hx : x.ok) (hy : y.ok) : FnV (CF k) mQ [x.av, y.av] (.bool (decide (x = y))) := by
 obtain ⟨⟨p1, p2⟩, ⟨p3, p4⟩, p5, p6⟩ := hx
 obtain ⟨⟨q1, q2⟩, ⟨q3, q4⟩, q5, q6⟩ := hy
 obtain ⟨a1, a2, a3⟩ := x
 obtain ⟨b1, b2, b3⟩ := y
 simp only at p1 p2 p3 p4 p5 p6 q1 q2 q3 q4 q5 q6
 obtain ⟨fa2, sa2, ea2, ha2⟩ := Wo a2
 obtain ⟨fa3, sa3, ea3, ha3⟩ := Wo a3
 obtain ⟨fb2, sb2, eb2, hb2⟩ := Wo b2
 obtain ⟨fb3, sb3, eb3, hb3⟩ := Wo b3
 have h1 := lR (k - 1) (by omega) false false false false 1 1 a1 b1 p1 q1 (.inl rfl) (.inl rfl) p2 q2
 have h2 := iQ (k - 1) (by omega) false fa2 false fb2 sa2 sb2 a2 b2 p3 q3 ha2 hb2 p4 q4
 have h3 := iQ (k - 1) (by omega) false fa3 false fb3 sa3 sb3 a3 b3 p5 q5 ha3 hb3 p6 q6
 unfold ViewV.av ViewV.cs Vj
 simp only
 rw [ea2, ea3, eb2, eb3]
 refine fnk (by omega) Abu rfl ?_
 unfold lD
 have he : decide ((⟨a1, a2, a3⟩ : ViewV) = ⟨b1, b2, b3⟩) = (decide (a1 = b1) && decide (a2 = b2) && decide (a3 = b3)) := by
  rw [Aye]; simp [and_assoc]
 rw [he]
 cases d1 : decide (a1 = b1) <;> rw [d1] at h1
 ·skip
  repeat' (first | refine qS ?_ | refine qN ?_ | refine Ae h1 ?_ | refine qQb ?_ | fail)
  exact ⟨Or.inr rfl, _, rfl, rfl⟩
 cases d2 : decide (a2 = b2) <;> rw [d2] at h2
 ·skip
  repeat' (first | refine qS ?_ | refine qN ?_ | refine Ae h1 ?_ | refine Ae h2 ?_ | refine qQb ?_ | fail)
  exact ⟨Or.inr rfl, _, rfl, rfl⟩
 cases d3 : decide (a3 = b3) <;> rw [d3] at h3
 all_goals
  repeat' (first | refine qS ?_ | refine qN ?_ | refine Ae h1 ?_ | refine Ae h2 ?_ | refine Ae h3 ?_ | refine qQb ?_ | fail)
 all_goals exact ⟨Or.inr rfl, _, rfl, rfl⟩
theorem Bep {k : Nat} {H : Heap} {T : Tmps} {t f t' f' : Bool} {s s' : Nat} {a b : List ViewV} (ha : a.length < 1000000) (hs : s = 3 ∨ a = []) (hs' : s' = 3 ∨ b = []) (hl : a.length = b.length) (hwa : ∀ x ∈ a, x.ok) (hwb : ∀ x ∈ b, x.ok) (hk : 1000050 ≤ k)
  (hT : Has T [(0, .islc t f s (a.map ViewV.av)), (1, .islc t' f' s' (b.map ViewV.av)), (5, .int .i64 0)]) :
  W (Br (CF k) noX 0 k (.loop Bcj) T H) (fun ex T' H' => (ex = .exit 0 ∧ a = b) ∨ (ex = .ret ∧ T' 4 = .bool false ∧ a ≠ b)) := by
 refine Fj a.length (fun i T' H' => a.take i = b.take i ∧ Has T' [(0, .islc t f s (a.map ViewV.av)), (1, .islc t' f' s' (b.map ViewV.av)), (5, .int .i64 (i : Nat))]) ⟨rfl, hT⟩ (by omega) ?_
 rintro i T H2 hi ⟨he, hT⟩
 rw [hT.eq]
 simp only [over]
 unfold Bcj
 have hml : (a.map ViewV.av).length = a.length := Ah _
 by_cases hlt : i < a.length
 ·obtain rfl : s = 3 := hs.resolve_right (fun h => by rw [h] at hlt; simp at hlt)
  have hbl : i < b.length := by omega
  obtain rfl : s' = 3 := hs'.resolve_right (fun h => by rw [h] at hbl; simp at hbl)
  obtain ⟨x, hx⟩ : ∃ x, x = a[i] := ⟨_, rfl⟩
  obtain ⟨y, hy⟩ : ∃ y, y = b[i] := ⟨_, rfl⟩
  have hxw := hwa a[i] (Bw hlt)
  have hyw := hwb b[i] (Bw hbl)
  rw [← hx] at hxw
  rw [← hy] at hyw
  have hby := Avs k (by omega) x y hxw hyw
  have hst : a.take (i + 1) = b.take (i + 1) ↔ x = y := by
   rw [Av hlt, Av hbl, ← hx, ← hy, he]
   simp
  have hex : (a.map ViewV.av)[(i : Int).toNat]? = some (ViewV.av x) := by
   rw [Bd, Bp, Aa hlt, ← hx]; rfl
  have hey : (b.map ViewV.av)[(i : Int).toNat]? = some (ViewV.av y) := by
   rw [Bd, Bp, Aa hbl, ← hy]; rfl
  rw [show ViewV.av x = .agg [.islc false false 1 (x.head.map Hq), bS x.snaps, bS x.opens] from rfl] at hex hby
  rw [show ViewV.av y = .agg [.islc false false 1 (y.head.map Hq), bS y.snaps, bS y.opens] from rfl] at hey hby
  obtain ⟨fa2, sa2, ea2, ha2⟩ := Wo x.snaps
  obtain ⟨fa3, sa3, ea3, ha3⟩ := Wo x.opens
  obtain ⟨fb2, sb2, eb2, hb2⟩ := Wo y.snaps
  obtain ⟨fb3, sb3, eb3, hb3⟩ := Wo y.opens
  rw [ea2, ea3] at hex hby
  rw [eb2, eb3] at hey hby
  by_cases hxy : x = y
  ·rw [As hxy] at hby
   repeat' (first
    | refine qS ?_ | refine Bh (n := a.length) rfl hml rfl rfl ?_ | refine Da rfl rfl (by omega) hex rfl rfl ?_ | refine Da rfl rfl (by omega) hey rfl rfl ?_
    | refine Ae hby ?_ | refine qQba ?_ | refine Ac (fun _ => ?_) (fun _ => ?_))
   exact ⟨hlt, hst.2 hxy, rfl, rfl, by show AV.int _ _ = AV.int _ _; congr 1, trivial⟩
  ·rw [Bb hxy] at hby
   repeat' (first
    | refine qS ?_ | refine Bh (n := a.length) rfl hml rfl rfl ?_ | refine Da rfl rfl (by omega) hex rfl rfl ?_ | refine Da rfl rfl (by omega) hey rfl rfl ?_
    | refine Ae hby ?_ | refine qQba ?_ | refine Ac (fun _ => ?_) (fun _ => ?_))
   exact .inr ⟨rfl, rfl, fun h => hxy (hst.1 (by rw [h]))⟩
 ·skip
  repeat' (first | refine qS ?_ | refine Bh (n := a.length) rfl hml rfl rfl ?_ | refine qQba ?_ | refine Ac (fun _ => ?_) (fun _ => ?_))
  have h1 := Ai (l := a) (i := i) (by omega)
  have h2 := Ai (l := b) (i := i) (by omega)
  exact .inl ⟨rfl, by rw [← h1, ← h2]; exact he⟩
theorem Bab (k : Nat) (hk : 1000050 + 1 ≤ k) (t f t' f' : Bool) (s s' : Nat) (a b : List ViewV) (ha : a.length < 1000000) (hb : b.length < 1000000) (hs : s = 3 ∨ a = []) (hs' : s' = 3 ∨ b = []) (hwa : ∀ x ∈ a, x.ok) (hwb : ∀ x ∈ b, x.ok) :
  FnV (CF k) Bcz [.islc t f s (a.map ViewV.av), .islc t' f' s' (b.map ViewV.av)] (.bool (decide (a = b))) := by
 refine fnk (by omega) Bgt rfl ?_
 unfold keep_Views
 have hma : (a.map ViewV.av).length = a.length := Ah _
 have hmb : (b.map ViewV.av).length = b.length := Ah _
 by_cases hl : a.length = b.length
 ·have hl' : (a.length : Int) = (b.length : Int) := by omega
  repeat' (first | refine qS ?_ | refine Bh (n := a.length) rfl hma rfl rfl ?_ | refine Bh (n := b.length) rfl hmb rfl rfl ?_ | refine qQb ?_ | refine Ac (fun _ => ?_) (fun _ => ?_))
  refine W.mono (Bep (k := k - 1) (a := a) (b := b) (t := t) (f := f) (t' := t') (f' := f') (s := s) (s' := s') ha hs hs' hl hwa hwb (by omega) ⟨rfl, rfl, rfl, trivial⟩) ?_
  rintro ex T2 H2 (⟨rfl, he⟩ | ⟨rfl, h4, he⟩)
  ·rw [As he]
   show W _ _
   repeat' (first | refine qQb ?_ | refine Ac (fun _ => ?_) (fun _ => ?_))
   exact ⟨Or.inr rfl, _, rfl, rfl⟩
  ·rw [Bb he]
   refine ⟨Or.inr rfl, .bool false, ?_, rfl⟩
   show Ia T2 H2 [.tmp 4] = _
   simp only [Ia, ares, Rb, Afc, h4]; rfl
 ·have hl' : (a.length : Int) ≠ (b.length : Int) := by omega
  have hne : a ≠ b := fun h => hl (by rw [h])
  rw [Bb hne]
  repeat' (first | refine qS ?_ | refine Bh (n := a.length) rfl hma rfl rfl ?_ | refine Bh (n := b.length) rfl hmb rfl rfl ?_ | refine qQb ?_ | refine Ac (fun _ => ?_) (fun _ => ?_))
  exact ⟨Or.inr rfl, _, rfl, rfl⟩
theorem Aup {b : Nat} {H : Heap} {S : List SnapV} (h : SnAt b H S) (n : Nat) : fz true (n + 4) H (snAv b S.length) = bS S := by
 unfold snAv bS
 unfold SnAt at h
 by_cases h0 : S = []
 ·subst h0; rfl
 ·rw [if_neg h0] at h ⊢
  rw [if_neg (fun hh => h0 (Eg.1 hh))]
  have e : (S.map SnapV.av).map (fz true (n + 3) H) = S.map SnapV.av := by
   rw [Ha]
   exact Bk fun s _ => rfl
  show fz true (n + 3 + 1) H _ = _
  rw [Tf (Fv h (by simp)) (by omega), Cb, Ai (by simp), e]
  rfl
theorem Auk {l : List UInt8} {x : Img} (hx : x.fit l) : ∀ w ∈ x.trees, w.m.length = 512 ∧ ∀ a ∈ w.m, a < nb l := fun w hw => ⟨(hx.tree w hw).1.1.1, (hx.tree w hw).1.1.2.1⟩
theorem vV (k : Nat) (hk : 1000200 ≤ k) (f : Bool) (l : List UInt8) (hl : l.length < 1000000) : FnV (CF k) vF [.islc false f 1 (BL l)] (Ajv l (pB l)) := by
 have hlk := Ui (k - 1) (by omega) f l hl
 refine fnk (by omega) Alh rfl ?_
 unfold view_Of
 cases h : pB l with
 | error p =>
  obtain ⟨a, e⟩ := p
  have he := Nb h
  rw [h] at hlk
  unfold Nn at hlk
  unfold Ajv
  simp only at hlk ⊢
  have he0 : (e : Int) ≠ 0 := by omega
  repeat' (first | refine Al (hlk) (fun _ => ?_) (fun _ => ?_) | refine Ae (hlk) ?_ | refine qQb ?_ | refine Ac (fun _ => ?_) (fun _ => ?_) | refine Bl fun _ => ?_)
  exact ⟨Or.inr rfl, _, rfl, rfl⟩
 | ok x =>
  rw [h] at hlk
  obtain ⟨hd, hx⟩ := Oa hl h
  have hm := Auk hx
  have hfew := hx.few
  have htl := hx.trees
  have hrok := hx.recs
  have hsz := hx.sup.2.2.1
  obtain ⟨f1, s1, hr, hs1⟩ := rIvF x.recs
  obtain ⟨f2, s2, hb, hs2⟩ := Iv x.blocks
  unfold Nn Img.cs at hlk
  unfold Ajv Gq ViewV.cs
  simp only at hlk ⊢
  rw [hr, hb] at hlk
  cases hts : x.trees with
  | nil => rw [hts] at htl; simp at htl
  | cons w0 ws =>
   rw [hts] at hlk hm htl
   have hw0 := hm w0 (by simp)
   have hse := aC (k - 1) (by omega) f false false l hd w0.m hw0.2 (by rw [hw0.1]; decide) x.sup.size (by rw [hw0.1]; exact hsz)
   unfold Vj at hse
   have he0 : ((w0 :: ws).map (WS.iv f l))[(0 : Int).toNat]? = some (.iptr false [.islc false f 1 (BL l), .int .i64 (nb l : Nat), .islc false false 1 (NL w0.m), Jn false w0.nodes, .bool w0.bad]) := rfl
   have hrl : (x.recs.map Rec.av).length = x.recs.length := Ah _
   generalize hR : Nw l w0.m x.sup.size = R at *
   repeat' (first
    | refine qS ?_ | refine Dc ?_ | refine Da rfl rfl (by decide) he0 rfl rfl ?_ | refine Ae hse ?_
    | refine Kz (cs := [.islc false false 1 (R.map Hq), .islc false true 0 [], .islc false true 0 []]) ?_ (hc := by kernel_rfl) | refine Iw ?_ (hl := by kernel_rfl)
    | refine Bh (n := x.recs.length) rfl hrl rfl rfl ?_ | refine Al (hlk) (fun _ => ?_) (fun _ => ?_) | refine Ae (hlk) ?_ | refine qQb ?_
    | refine Ac (fun _ => ?_) (fun _ => ?_) | refine Bl fun _ => ?_)
   refine W.mono (Ata (k := k - 1) (l := l) (f := f) (f' := f1) (s' := s1) (recs := x.recs) (ws := ws) (w0 := w0) (c0 := .int .i64 x.sup.gen) (c1 := .int .i64 x.sup.blocks) (c2 := .int .i64 x.sup.root) (c3 := .int .i64 x.sup.size) (c4 := .int .i64 x.sup.first) (c5 := .int .i64 x.slot) (bv := .islc false f2 s2 (NL x.blocks)) (hd := .islc false false 1 (R.map Hq)) (by omega) hd hs1 (by omega) (by simpa using htl) (fun w hw => hm w (by simp [hw])) (fun r hr => (hrok r hr).2.2.2.1) ?_ ?_ ?_ ?_) ?_
   ·rfl
   ·rfl
   ·rfl
   ·exact ⟨rfl, rfl, rfl, rfl, rfl, rfl, rfl, trivial⟩
   rintro ex T2 H2 ⟨rfl, g0, g1, g7, g5, h2, h7⟩
   rw [Has.eq (T := T2) (ps := [(2, _), (7, _)]) ⟨h2, h7, trivial⟩]
   simp only [over]
   show W _ _
   have g0' : H2 0 = ⟨1, false, .row 3 [.agg [.islc false true 0 [], .islc false true 0 [], .islc false true 0 []]]⟩ := g0.trans rfl
   repeat' (first | refine qS ?_ | refine Be ?_ (hr := by exact g1) | refine Co ?_ (hr := by exact g0') | refine qQb ?_ | refine Ac (fun _ => ?_) (fun _ => ?_) | refine Bl fun _ => ?_)
   refine ⟨Or.inr rfl, .tup [.agg [.islc false false 1 (R.map Hq), snAv 7 (Se l (x.recs.zip ws)).length, snAv 5 (Sf l (x.recs.zip ws)).length], .int .i64 0], rfl, ?_⟩
   show AV.tup [.agg [_, fz true 4 _ (snAv 7 _), fz true 4 _ (snAv 5 _)], _] = _
   have hup : ∀ (v : Blk) b (S : List SnapV), b ≠ 0 → SnAt b H2 S → SnAt b (H2.upd 0 v) S := by
    intro v b S hb0 hS
    unfold SnAt at hS ⊢
    rw [Heap.upd_eq, if_neg hb0]; exact hS
   rw [Aup (hup _ 7 _ (by decide) g7) 0, Aup (hup _ 5 _ (by decide) g5) 0]
   unfold Vj Se Sf
   simp only [Mn, fJ, hR]
   rfl
theorem Aok {l : List UInt8} {x : Img} (hd : Dev l) (hx : x.fit l) : (Gq l x).ok := by
 have hm := Auk hx
 have hf := hx.few
 have hsec : ∀ {m : List Nat} (n : Nat), m.length = 512 → (∀ a ∈ m, a < nb l) → Tt (Nw l m n) := by
  intro m n h1 h2
  unfold Tt Nw
  refine ⟨by rw [Ah, Bc]; omega, fun r hr => ?_⟩
  obtain ⟨a, ha, rfl⟩ := Bz.1 hr
  rw [Aox fun _ => hd.le (h2 a (Bs ha))]; decide
 have hz : ∀ p ∈ x.recs.zip x.trees.tail, p.2 ∈ x.trees := fun p hp => List.mem_of_mem_tail (Mm hp).2
 have hzl : (x.recs.zip x.trees.tail).length ≤ 61 := by rw [Td]; omega
 unfold Gq ViewV.ok
 refine ⟨?_, ⟨?_, ?_⟩, ?_, ?_⟩
 ·cases ht : x.trees with
  | nil => have := hx.trees; rw [ht] at this; simp at this
  | cons w ws => have := hm w (by rw [ht]; simp); exact hsec _ this.1 this.2
 ·rw [Ah]; have := Ej (fun p => !Tg p) (x.recs.zip x.trees.tail); omega
 ·intro s hs
  obtain ⟨p, hp, rfl⟩ := Bz.1 hs
  have := hm p.2 (hz p (Ew.1 hp).1)
  exact hsec _ this.1 this.2
 ·rw [Ah]; have := Ej Tg (x.recs.zip x.trees.tail); omega
 ·intro s hs
  obtain ⟨p, hp, rfl⟩ := Bz.1 hs
  have := hm p.2 (hz p (Ew.1 hp).1)
  exact hsec _ this.1 this.2
end Go.Proofs.YtkaiiopoilpjeaaGreat
