/- Lemmas. -/
import Derived.Test.YtkpndfkpdnknkaaGreatME1
import Derived.Test.YtkpndfkpdnknkaaGreatMD1
import Derived.Test.YtkpndfkpdnknkaaGreatMJ4
import Derived.Test.YtkpndfkpdnknkaaGreatMN
set_option linter.unusedSimpArgs false
set_option linter.unusedVariables false
set_option maxRecDepth 10000
set_option maxHeartbeats 16000000
namespace Go.Proofs.YtkpndfkpdnknkaaGreat
open Go.AI
def Qw (r : List (List UInt8)) : Prop := r.length < 1000000 ∧ ∀ x ∈ r, x.length < 1000000
def ViewV.ok (v : ViewV) : Prop := Qw v.head ∧ (v.snaps.length < 1000000 ∧ ∀ s ∈ v.snaps, Qw s.sectors) ∧ v.opens.length < 1000000 ∧ ∀ s ∈ v.opens, Qw s.sectors
instance : DecidableEq SnapV := fun ⟨a, b, c, d, e⟩ ⟨a', b', c', d', e'⟩ => decidable_of_iff (a = a' ∧ b = b' ∧ c = c' ∧ d = d' ∧ e = e') (by simp)
instance : DecidableEq ViewV := fun ⟨a, b, c⟩ ⟨a', b', c'⟩ => decidable_of_iff (a = a' ∧ b = b' ∧ c = c') (by simp)
def ViewV.av (v : ViewV) : AV := .agg v.cs
attribute [local irreducible] aops Bp Cs Df aop W WO
theorem uV {k : Nat} {H : Heap} {T : Tmps} {t f t' f' : Bool} {s s' : Nat} {a b : List (List UInt8)} (ha : a.length < 1000000) (hs : s = 1 ∨ a = []) (hs' : s' = 1 ∨ b = []) (hl : a.length = b.length) (hwa : ∀ x ∈ a, x.length < 1000000) (hwb : ∀ x ∈ b, x.length < 1000000) (hk : 1000010 ≤ k)
  (hT : Has T [(0, .islc t f s (a.map El)), (1, .islc t' f' s' (b.map El)), (5, .int .i64 0)]) :
  W (Bp (CF k) noX 0 k (.loop gY) T H) (fun ex T' H' => (ex = .exit 0 ∧ a = b) ∨ (ex = .ret ∧ T' 4 = .bool false ∧ a ≠ b)) := by
 refine Fa a.length (fun i T' H' => a.take i = b.take i ∧ Has T' [(0, .islc t f s (a.map El)), (1, .islc t' f' s' (b.map El)), (5, .int .i64 (i : Nat))]) ⟨rfl, hT⟩ (by omega) ?_
 rintro i T H2 hi ⟨he, hT⟩
 rw [hT.eq]
 simp only [over]
 unfold gY
 have hml : (a.map El).length = a.length := Ah _
 by_cases hlt : i < a.length
 ·obtain rfl : s = 1 := hs.resolve_right (fun h => by rw [h] at hlt; simp at hlt)
  have hbl : i < b.length := by omega
  obtain rfl : s' = 1 := hs'.resolve_right (fun h => by rw [h] at hbl; simp at hbl)
  obtain ⟨x, hx⟩ : ∃ x, x = a[i] := ⟨_, rfl⟩
  obtain ⟨y, hy⟩ : ∃ y, y = b[i] := ⟨_, rfl⟩
  have hxw := hwa a[i] (Bx hlt)
  have hyw := hwb b[i] (Bx hbl)
  rw [← hx] at hxw
  rw [← hy] at hyw
  have hby := Tr k (by omega) false false false false 1 1 x y hxw hyw (.inl rfl) (.inl rfl)
  have hst : a.take (i + 1) = b.take (i + 1) ↔ x = y := by
   rw [Au hlt, Au hbl, ← hx, ← hy, he]
   simp
  have hex : (a.map El)[(i : Int).toNat]? = some (El x) := by
   rw [Ax, Az, Aa hlt, ← hx]; rfl
  have hey : (b.map El)[(i : Int).toNat]? = some (El y) := by
   rw [Ax, Az, Aa hbl, ← hy]; rfl
  rw [show El x = .islc false false 1 (BL x) from rfl] at hex
  rw [show El y = .islc false false 1 (BL y) from rfl] at hey
  by_cases hxy : x = y
  ·rw [An hxy] at hby
   repeat' (first
    | refine qS ?_ | refine Bi (n := a.length) rfl hml rfl rfl ?_ | refine Cz rfl rfl (by omega) hex rfl rfl ?_ | refine Cz rfl rfl (by omega) hey rfl rfl ?_
    | refine Ab hby ?_ | refine qQba ?_ | refine Af (fun _ => ?_) (fun _ => ?_))
   exact ⟨hlt, hst.2 hxy, rfl, rfl, by show AV.int _ _ = AV.int _ _; congr 1, trivial⟩
  ·rw [Ba hxy] at hby
   repeat' (first
    | refine qS ?_ | refine Bi (n := a.length) rfl hml rfl rfl ?_ | refine Cz rfl rfl (by omega) hex rfl rfl ?_ | refine Cz rfl rfl (by omega) hey rfl rfl ?_
    | refine Ab hby ?_ | refine qQba ?_ | refine Af (fun _ => ?_) (fun _ => ?_))
   exact .inr ⟨rfl, rfl, fun h => hxy (hst.1 (by rw [h]))⟩
 ·skip
  repeat' (first | refine qS ?_ | refine Bi (n := a.length) rfl hml rfl rfl ?_ | refine qQba ?_ | refine Af (fun _ => ?_) (fun _ => ?_))
  have h1 := Aj (l := a) (i := i) (by omega)
  have h2 := Aj (l := b) (i := i) (by omega)
  exact .inl ⟨rfl, by rw [← h1, ← h2]; exact he⟩
theorem oV (k : Nat) (hk : 1000010 + 1 ≤ k) (t f t' f' : Bool) (s s' : Nat) (a b : List (List UInt8)) (ha : a.length < 1000000) (hb : b.length < 1000000) (hs : s = 1 ∨ a = []) (hs' : s' = 1 ∨ b = []) (hwa : ∀ x ∈ a, x.length < 1000000) (hwb : ∀ x ∈ b, x.length < 1000000) :
  FnV (CF k) nO [.islc t f s (a.map El), .islc t' f' s' (b.map El)] (.bool (decide (a = b))) := by
 refine fnk (by omega) Afd rfl ?_
 unfold keep_Rows
 have hma : (a.map El).length = a.length := Ah _
 have hmb : (b.map El).length = b.length := Ah _
 by_cases hl : a.length = b.length
 ·have hl' : (a.length : Int) = (b.length : Int) := by omega
  repeat' (first | refine qS ?_ | refine Bi (n := a.length) rfl hma rfl rfl ?_ | refine Bi (n := b.length) rfl hmb rfl rfl ?_ | refine qQb ?_ | refine Af (fun _ => ?_) (fun _ => ?_))
  refine W.mono (uV (k := k - 1) (a := a) (b := b) (t := t) (f := f) (t' := t') (f' := f') (s := s) (s' := s') ha hs hs' hl hwa hwb (by omega) ⟨rfl, rfl, rfl, trivial⟩) ?_
  rintro ex T2 H2 (⟨rfl, he⟩ | ⟨rfl, h4, he⟩)
  ·rw [An he]
   show W _ _
   repeat' (first | refine qQb ?_ | refine Af (fun _ => ?_) (fun _ => ?_))
   exact ⟨Or.inr rfl, _, rfl, rfl⟩
  ·rw [Ba he]
   refine ⟨Or.inr rfl, .bool false, ?_, rfl⟩
   show Hu T2 H2 [.tmp 4] = _
   simp only [Hu, ares, Rn, Ahl, h4]; rfl
 ·have hl' : (a.length : Int) ≠ (b.length : Int) := by omega
  have hne : a ≠ b := fun h => hl (by rw [h])
  rw [Ba hne]
  repeat' (first | refine qS ?_ | refine Bi (n := a.length) rfl hma rfl rfl ?_ | refine Bi (n := b.length) rfl hmb rfl rfl ?_ | refine qQb ?_ | refine Af (fun _ => ?_) (fun _ => ?_))
  exact ⟨Or.inr rfl, _, rfl, rfl⟩
theorem Axi (k : Nat) (hk : 1000020 ≤ k) (x y : SnapV) (hx : Qw x.sectors) (hy : Qw y.sectors) : FnV (CF k) nX [x.av, y.av] (.bool (decide (x = y))) := by
 have hr := oV (k - 1) (by omega) false false false false 1 1 x.sectors y.sectors hx.1 hy.1 (.inl rfl) (.inl rfl) hx.2 hy.2
 obtain ⟨a1, a2, a3, a4, a5⟩ := x
 obtain ⟨b1, b2, b3, b4, b5⟩ := y
 unfold SnapV.av Tb
 simp only at hr ⊢
 refine fnk (by omega) Afk rfl ?_
 unfold mY
 by_cases h1 : a1 = b1
 rotate_left 1
 ·have h1' : (a1 : Int) ≠ b1 := by omega
  rw [Ba (by simp [h1])]
  repeat' (first | refine qS ?_ | refine qN ?_ | refine qQb ?_ | fail)
  exact ⟨Or.inr rfl, _, rfl, rfl⟩
 have h1' : (a1 : Int) = b1 := by omega
 by_cases h2 : a2 = b2
 rotate_left 1
 ·have h2' : (a2 : Int) ≠ b2 := by omega
  rw [Ba (by simp [h2])]
  repeat' (first | refine qS ?_ | refine qN ?_ | refine qQb ?_ | fail)
  exact ⟨Or.inr rfl, _, rfl, rfl⟩
 have h2' : (a2 : Int) = b2 := by omega
 by_cases h4 : a4 = b4
 rotate_left 1
 ·have h4' : (a4 : Int) ≠ b4 := by omega
  rw [Ba (by simp [h4])]
  repeat' (first | refine qS ?_ | refine qN ?_ | refine qQb ?_ | fail)
  exact ⟨Or.inr rfl, _, rfl, rfl⟩
 have h4' : (a4 : Int) = b4 := by omega
 by_cases h5 : a5 = b5
 rotate_left 1
 ·have h5' : (a5 : Int) ≠ b5 := by omega
  rw [Ba (by simp [h5])]
  repeat' (first | refine qS ?_ | refine qN ?_ | refine qQb ?_ | fail)
  exact ⟨Or.inr rfl, _, rfl, rfl⟩
 have h5' : (a5 : Int) = b5 := by omega
 have he : decide ((⟨a1, a2, a3, a4, a5⟩ : SnapV) = ⟨b1, b2, b3, b4, b5⟩) = decide (a3 = b3) := by
  simp [h1, h2, h4, h5]
 rw [he]
 cases hd : decide (a3 = b3) <;> rw [hd] at hr
 all_goals
  repeat' (first | refine qS ?_ | refine qN ?_ | refine Ab hr ?_ | refine qQb ?_ | fail)
 all_goals exact ⟨Or.inr rfl, _, rfl, rfl⟩
theorem pI {k : Nat} {H : Heap} {T : Tmps} {t f t' f' : Bool} {s s' : Nat} {a b : List SnapV} (ha : a.length < 1000000) (hs : s = 5 ∨ a = []) (hs' : s' = 5 ∨ b = []) (hl : a.length = b.length) (hwa : ∀ x ∈ a, Qw x.sectors) (hwb : ∀ x ∈ b, Qw x.sectors) (hk : 1000030 ≤ k)
  (hT : Has T [(0, .islc t f s (a.map SnapV.av)), (1, .islc t' f' s' (b.map SnapV.av)), (5, .int .i64 0)]) :
  W (Bp (CF k) noX 0 k (.loop eE) T H) (fun ex T' H' => (ex = .exit 0 ∧ a = b) ∨ (ex = .ret ∧ T' 4 = .bool false ∧ a ≠ b)) := by
 refine Fa a.length (fun i T' H' => a.take i = b.take i ∧ Has T' [(0, .islc t f s (a.map SnapV.av)), (1, .islc t' f' s' (b.map SnapV.av)), (5, .int .i64 (i : Nat))]) ⟨rfl, hT⟩ (by omega) ?_
 rintro i T H2 hi ⟨he, hT⟩
 rw [hT.eq]
 simp only [over]
 unfold eE
 have hml : (a.map SnapV.av).length = a.length := Ah _
 by_cases hlt : i < a.length
 ·obtain rfl : s = 5 := hs.resolve_right (fun h => by rw [h] at hlt; simp at hlt)
  have hbl : i < b.length := by omega
  obtain rfl : s' = 5 := hs'.resolve_right (fun h => by rw [h] at hbl; simp at hbl)
  obtain ⟨x, hx⟩ : ∃ x, x = a[i] := ⟨_, rfl⟩
  obtain ⟨y, hy⟩ : ∃ y, y = b[i] := ⟨_, rfl⟩
  have hxw := hwa a[i] (Bx hlt)
  have hyw := hwb b[i] (Bx hbl)
  rw [← hx] at hxw
  rw [← hy] at hyw
  have hby := Axi k (by omega) x y hxw hyw
  have hst : a.take (i + 1) = b.take (i + 1) ↔ x = y := by
   rw [Au hlt, Au hbl, ← hx, ← hy, he]
   simp
  have hex : (a.map SnapV.av)[(i : Int).toNat]? = some (SnapV.av x) := by
   rw [Ax, Az, Aa hlt, ← hx]; rfl
  have hey : (b.map SnapV.av)[(i : Int).toNat]? = some (SnapV.av y) := by
   rw [Ax, Az, Aa hbl, ← hy]; rfl
  rw [show SnapV.av x = .agg [.int .i64 x.id, .int .i64 x.parent, .islc false false 1 (x.sectors.map El), .int .i64 x.frames, .int .i64 x.digest] from rfl] at hex hby
  rw [show SnapV.av y = .agg [.int .i64 y.id, .int .i64 y.parent, .islc false false 1 (y.sectors.map El), .int .i64 y.frames, .int .i64 y.digest] from rfl] at hey hby
  by_cases hxy : x = y
  ·rw [An hxy] at hby
   repeat' (first
    | refine qS ?_ | refine Bi (n := a.length) rfl hml rfl rfl ?_ | refine Cz rfl rfl (by omega) hex rfl rfl ?_ | refine Cz rfl rfl (by omega) hey rfl rfl ?_
    | refine Ab hby ?_ | refine qQba ?_ | refine Af (fun _ => ?_) (fun _ => ?_))
   exact ⟨hlt, hst.2 hxy, rfl, rfl, by show AV.int _ _ = AV.int _ _; congr 1, trivial⟩
  ·rw [Ba hxy] at hby
   repeat' (first
    | refine qS ?_ | refine Bi (n := a.length) rfl hml rfl rfl ?_ | refine Cz rfl rfl (by omega) hex rfl rfl ?_ | refine Cz rfl rfl (by omega) hey rfl rfl ?_
    | refine Ab hby ?_ | refine qQba ?_ | refine Af (fun _ => ?_) (fun _ => ?_))
   exact .inr ⟨rfl, rfl, fun h => hxy (hst.1 (by rw [h]))⟩
 ·skip
  repeat' (first | refine qS ?_ | refine Bi (n := a.length) rfl hml rfl rfl ?_ | refine qQba ?_ | refine Af (fun _ => ?_) (fun _ => ?_))
  have h1 := Aj (l := a) (i := i) (by omega)
  have h2 := Aj (l := b) (i := i) (by omega)
  exact .inl ⟨rfl, by rw [← h1, ← h2]; exact he⟩
theorem Tl (k : Nat) (hk : 1000030 + 1 ≤ k) (t f t' f' : Bool) (s s' : Nat) (a b : List SnapV) (ha : a.length < 1000000) (hb : b.length < 1000000) (hs : s = 5 ∨ a = []) (hs' : s' = 5 ∨ b = []) (hwa : ∀ x ∈ a, Qw x.sectors) (hwb : ∀ x ∈ b, Qw x.sectors) :
  FnV (CF k) iV [.islc t f s (a.map SnapV.av), .islc t' f' s' (b.map SnapV.av)] (.bool (decide (a = b))) := by
 refine fnk (by omega) Aas rfl ?_
 unfold keep_Snaps
 have hma : (a.map SnapV.av).length = a.length := Ah _
 have hmb : (b.map SnapV.av).length = b.length := Ah _
 by_cases hl : a.length = b.length
 ·have hl' : (a.length : Int) = (b.length : Int) := by omega
  repeat' (first | refine qS ?_ | refine Bi (n := a.length) rfl hma rfl rfl ?_ | refine Bi (n := b.length) rfl hmb rfl rfl ?_ | refine qQb ?_ | refine Af (fun _ => ?_) (fun _ => ?_))
  refine W.mono (pI (k := k - 1) (a := a) (b := b) (t := t) (f := f) (t' := t') (f' := f') (s := s) (s' := s') ha hs hs' hl hwa hwb (by omega) ⟨rfl, rfl, rfl, trivial⟩) ?_
  rintro ex T2 H2 (⟨rfl, he⟩ | ⟨rfl, h4, he⟩)
  ·rw [An he]
   show W _ _
   repeat' (first | refine qQb ?_ | refine Af (fun _ => ?_) (fun _ => ?_))
   exact ⟨Or.inr rfl, _, rfl, rfl⟩
  ·rw [Ba he]
   refine ⟨Or.inr rfl, .bool false, ?_, rfl⟩
   show Hu T2 H2 [.tmp 4] = _
   simp only [Hu, ares, Rn, Ahl, h4]; rfl
 ·have hl' : (a.length : Int) ≠ (b.length : Int) := by omega
  have hne : a ≠ b := fun h => hl (by rw [h])
  rw [Ba hne]
  repeat' (first | refine qS ?_ | refine Bi (n := a.length) rfl hma rfl rfl ?_ | refine Bi (n := b.length) rfl hmb rfl rfl ?_ | refine qQb ?_ | refine Af (fun _ => ?_) (fun _ => ?_))
  exact ⟨Or.inr rfl, _, rfl, rfl⟩
theorem Awa (k : Nat) (hk : 1000040 ≤ k) (x y : ViewV) (hx : x.ok) (hy : y.ok) : FnV (CF k) oF [x.av, y.av] (.bool (decide (x = y))) := by
 obtain ⟨⟨p1, p2⟩, ⟨p3, p4⟩, p5, p6⟩ := hx
 obtain ⟨⟨q1, q2⟩, ⟨q3, q4⟩, q5, q6⟩ := hy
 obtain ⟨a1, a2, a3⟩ := x
 obtain ⟨b1, b2, b3⟩ := y
 simp only at p1 p2 p3 p4 p5 p6 q1 q2 q3 q4 q5 q6
 obtain ⟨fa2, sa2, ea2, ha2⟩ := Sp a2
 obtain ⟨fa3, sa3, ea3, ha3⟩ := Sp a3
 obtain ⟨fb2, sb2, eb2, hb2⟩ := Sp b2
 obtain ⟨fb3, sb3, eb3, hb3⟩ := Sp b3
 have h1 := oV (k - 1) (by omega) false false false false 1 1 a1 b1 p1 q1 (.inl rfl) (.inl rfl) p2 q2
 have h2 := Tl (k - 1) (by omega) false fa2 false fb2 sa2 sb2 a2 b2 p3 q3 ha2 hb2 p4 q4
 have h3 := Tl (k - 1) (by omega) false fa3 false fb3 sa3 sb3 a3 b3 p5 q5 ha3 hb3 p6 q6
 unfold ViewV.av ViewV.cs Tb
 simp only
 rw [ea2, ea3, eb2, eb3]
 refine fnk (by omega) Aes rfl ?_
 unfold lE
 have he : decide ((⟨a1, a2, a3⟩ : ViewV) = ⟨b1, b2, b3⟩) = (decide (a1 = b1) && decide (a2 = b2) && decide (a3 = b3)) := by
  rw [Bool.eq_iff_iff]; simp [and_assoc]
 rw [he]
 cases d1 : decide (a1 = b1) <;> rw [d1] at h1
 ·skip
  repeat' (first | refine qS ?_ | refine qN ?_ | refine Ab h1 ?_ | refine qQb ?_ | fail)
  exact ⟨Or.inr rfl, _, rfl, rfl⟩
 cases d2 : decide (a2 = b2) <;> rw [d2] at h2
 ·skip
  repeat' (first | refine qS ?_ | refine qN ?_ | refine Ab h1 ?_ | refine Ab h2 ?_ | refine qQb ?_ | fail)
  exact ⟨Or.inr rfl, _, rfl, rfl⟩
 cases d3 : decide (a3 = b3) <;> rw [d3] at h3
 all_goals
  repeat' (first | refine qS ?_ | refine qN ?_ | refine Ab h1 ?_ | refine Ab h2 ?_ | refine Ab h3 ?_ | refine qQb ?_ | fail)
 all_goals exact ⟨Or.inr rfl, _, rfl, rfl⟩
theorem Avj {b : Nat} {H : Heap} {S : List SnapV} (h : SnAt b H S) (n : Nat) : fz true (n + 4) H (snAv b S.length) = dF S := by
 unfold snAv dF
 unfold SnAt at h
 by_cases h0 : S = []
 ·subst h0; rfl
 ·rw [if_neg h0] at h ⊢
  rw [if_neg (fun hh => h0 (Ij.1 hh))]
  have e : (S.map SnapV.av).map (fz true (n + 3) H) = S.map SnapV.av := by
   rw [Fh]
   exact Av fun s _ => rfl
  show fz true (n + 3 + 1) H _ = _
  rw [Oi (Ev h (by simp)) (by omega), Cd, Aj (by simp), e]
  rfl
theorem Avn {l : List UInt8} {x : Img} (hx : x.fit l) : ∀ w ∈ x.trees, w.m.length = 512 ∧ ∀ a ∈ w.m, a < nb l := fun w hw => ⟨(hx.tree w hw).1.1.1, (hx.tree w hw).1.1.2.1⟩
theorem dN (k : Nat) (hk : 1000200 ≤ k) (f : Bool) (l : List UInt8) (hl : l.length < 1000000) : FnV (CF k) xY [.islc false f 1 (BL l)] (Aev l (sO l)) := by
 have hlk := cX (k - 1) (by omega) f l hl
 refine fnk (by omega) Aoj rfl ?_
 unfold view_Of
 cases h : sO l with
 | error p =>
  obtain ⟨a, e⟩ := p
  have he := Jr h
  rw [h] at hlk
  unfold Ta at hlk
  unfold Aev
  simp only at hlk ⊢
  have he0 : (e : Int) ≠ 0 := by omega
  repeat' (first | refine Bf (hlk) (fun _ => ?_) (fun _ => ?_) | refine Ab (hlk) ?_ | refine qQb ?_ | refine Af (fun _ => ?_) (fun _ => ?_) | refine Bu fun _ => ?_)
  exact ⟨Or.inr rfl, _, rfl, rfl⟩
 | ok x =>
  rw [h] at hlk
  obtain ⟨hd, hx⟩ := jN hl h
  have hm := Avn hx
  have hfew := hx.few
  have htl := hx.trees
  have hrok := hx.recs
  have hsz := hx.sup.2.2.1
  obtain ⟨f1, s1, hr, hs1⟩ := rIvF x.recs
  obtain ⟨f2, s2, hb, hs2⟩ := Kr x.blocks
  unfold Ta Img.cs at hlk
  unfold Aev Ci ViewV.cs
  simp only at hlk ⊢
  rw [hr, hb] at hlk
  cases hts : x.trees with
  | nil => rw [hts] at htl; simp at htl
  | cons w0 ws =>
   rw [hts] at hlk hm htl
   have hw0 := hm w0 (by simp)
   have hse := Ui (k - 1) (by omega) f false false l hd w0.m hw0.2 (by rw [hw0.1]; decide) x.sup.size (by rw [hw0.1]; exact hsz)
   unfold Tb at hse
   have he0 : ((w0 :: ws).map (WS.iv f l))[(0 : Int).toNat]? = some (.iptr false [.islc false f 1 (BL l), .int .i64 (nb l : Nat), .islc false false 1 (NL w0.m), Jn false w0.nodes, .bool w0.bad]) := rfl
   have hrl : (x.recs.map Rec.av).length = x.recs.length := Ah _
   generalize hR : Ji l w0.m x.sup.size = R at *
   repeat' (first
    | refine qS ?_ | refine Em ?_ | refine Cz rfl rfl (by decide) he0 rfl rfl ?_ | refine Ab hse ?_
    | refine Kq (cs := [.islc false false 1 (R.map El), .islc false true 0 [], .islc false true 0 []]) ?_ (hc := by kernel_rfl) | refine Hn ?_ (hl := by kernel_rfl)
    | refine Bi (n := x.recs.length) rfl hrl rfl rfl ?_ | refine Bf (hlk) (fun _ => ?_) (fun _ => ?_) | refine Ab (hlk) ?_ | refine qQb ?_
    | refine Af (fun _ => ?_) (fun _ => ?_) | refine Bu fun _ => ?_)
   refine W.mono (Auu (k := k - 1) (l := l) (f := f) (f' := f1) (s' := s1) (recs := x.recs) (ws := ws) (w0 := w0) (c0 := .int .i64 x.sup.gen) (c1 := .int .i64 x.sup.blocks) (c2 := .int .i64 x.sup.root) (c3 := .int .i64 x.sup.size) (c4 := .int .i64 x.sup.first) (c5 := .int .i64 x.slot) (bv := .islc false f2 s2 (NL x.blocks)) (hd := .islc false false 1 (R.map El)) (by omega) hd hs1 (by omega) (by simpa using htl) (fun w hw => hm w (by simp [hw])) (fun r hr => (hrok r hr).2.2.2.1) ?_ ?_ ?_ ?_) ?_
   ·rfl
   ·rfl
   ·rfl
   ·exact ⟨rfl, rfl, rfl, rfl, rfl, rfl, rfl, trivial⟩
   rintro ex T2 H2 ⟨rfl, g0, g1, g7, g5, h2, h7⟩
   rw [Has.eq (T := T2) (ps := [(2, _), (7, _)]) ⟨h2, h7, trivial⟩]
   simp only [over]
   show W _ _
   have g0' : H2 0 = ⟨1, false, .row 3 [.agg [.islc false true 0 [], .islc false true 0 [], .islc false true 0 []]]⟩ := g0.trans rfl
   repeat' (first | refine qS ?_ | refine Aw ?_ (hr := by exact g1) | refine Cn ?_ (hr := by exact g0') | refine qQb ?_ | refine Af (fun _ => ?_) (fun _ => ?_) | refine Bu fun _ => ?_)
   refine ⟨Or.inr rfl, .tup [.agg [.islc false false 1 (R.map El), snAv 7 (Td l (x.recs.zip ws)).length, snAv 5 (Sz l (x.recs.zip ws)).length], .int .i64 0], rfl, ?_⟩
   show AV.tup [.agg [_, fz true 4 _ (snAv 7 _), fz true 4 _ (snAv 5 _)], _] = _
   have hup : ∀ (v : Blk) b (S : List SnapV), b ≠ 0 → SnAt b H2 S → SnAt b (H2.upd 0 v) S := by
    intro v b S hb0 hS
    unfold SnAt at hS ⊢
    rw [Heap.upd_eq, if_neg hb0]; exact hS
   rw [Avj (hup _ 7 _ (by decide) g7) 0, Avj (hup _ 5 _ (by decide) g5) 0]
   unfold Tb Td Sz
   simp only [Oy, Adn, hR]
   rfl
theorem kE {l : List UInt8} {x : Img} (hd : Dev l) (hx : x.fit l) : (Ci l x).ok := by
 have hm := Avn hx
 have hf := hx.few
 have hsec : ∀ {m : List Nat} (n : Nat), m.length = 512 → (∀ a ∈ m, a < nb l) → Qw (Ji l m n) := by
  intro m n h1 h2
  unfold Qw Ji
  refine ⟨by rw [Ah, Ay]; omega, fun r hr => ?_⟩
  obtain ⟨a, ha, rfl⟩ := Bt.1 hr
  rw [vC fun _ => hd.le (h2 a (As ha))]; decide
 have hz : ∀ p ∈ x.recs.zip x.trees.tail, p.2 ∈ x.trees := fun p hp => List.mem_of_mem_tail (Ky hp).2
 have hzl : (x.recs.zip x.trees.tail).length ≤ 61 := by rw [Ud]; omega
 unfold Ci ViewV.ok
 refine ⟨?_, ⟨?_, ?_⟩, ?_, ?_⟩
 ·cases ht : x.trees with
  | nil => have := hx.trees; rw [ht] at this; simp at this
  | cons w ws => have := hm w (by rw [ht]; simp); exact hsec _ this.1 this.2
 ·rw [Ah]; have := Fg (fun p => !Xw p) (x.recs.zip x.trees.tail); omega
 ·intro s hs
  obtain ⟨p, hp, rfl⟩ := Bt.1 hs
  have := hm p.2 (hz p (Eh.1 hp).1)
  exact hsec _ this.1 this.2
 ·rw [Ah]; have := Fg Xw (x.recs.zip x.trees.tail); omega
 ·intro s hs
  obtain ⟨p, hp, rfl⟩ := Bt.1 hs
  have := hm p.2 (hz p (Eh.1 hp).1)
  exact hsec _ this.1 this.2
end Go.Proofs.YtkpndfkpdnknkaaGreat
