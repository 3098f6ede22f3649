/- Lemmas. -/
import Derived.Test.YtkaiiopoilpjeaaGreatMF
import Derived.Test.YtkaiiopoilpjeaaGreatMD1
import Derived.Test.YtkaiiopoilpjeaaGreatMK1
import Derived.Test.YtkaiiopoilpjeaaGreatME2
import Derived.Test.YtkaiiopoilpjeaaGreatMK2b
set_option linter.unusedSimpArgs false
set_option linter.unusedVariables false
set_option maxRecDepth 10000
set_option maxHeartbeats 16000000
namespace Go.Proofs.YtkaiiopoilpjeaaGreat
open Go.AI
structure IoZ where
 kind : Int
 at0 : Int
 data : List UInt8
instance : Inhabited IoZ := ⟨⟨0, 0, []⟩⟩
def IoZ.av (x : IoZ) : AV := .agg [.int .i64 x.kind, .int .i64 x.at0, .islc false false 1 (BL x.data)]
def qA (n : Nat) (x : IoZ) : Prop := x.kind = 1 ∧ 0 ≤ x.at0 ∧ x.at0 < n ∧ x.data.length = 64 ∨ x.kind = 2 ∧ x.at0 = 0 ∧ x.data.length = 0
instance (n : Nat) (x : IoZ) : Decidable (qA n x) := by unfold qA; infer_instance
def pN (l : List UInt8) (zs : List IoZ) : Nat := if ¬ devB l.length then 2 else if (zs.any fun x => !decide (qA (nb l) x)) = true then 1 else 0
def toIo (x : IoZ) : IoV := ⟨x.kind.toNat, x.at0.toNat, x.data, false, false, 1⟩
def Bht (l : List UInt8) (zs : List IoZ) : Bool := decide (l.length > 19200) || (decide (zs.length > 400) || zs.any fun x => decide (x.data.length > 300))
theorem Bfm {n : Nat} {x : IoZ} (h : qA n x) : x.av = (toIo x).av ∧ Oz n (toIo x) := by
 unfold qA at h
 have hk : ((x.kind.toNat : Nat) : Int) = x.kind := by omega
 have ha : ((x.at0.toNat : Nat) : Int) = x.at0 := by omega
 constructor
 ·unfold IoZ.av IoV.av toIo
  simp only
  rw [hk, ha]
 ·unfold Oz toIo
  simp only
  omega
theorem Beb {l : List UInt8} {zs : List IoZ} (h : pN l zs = 0) : devB l.length ∧ ∀ x ∈ zs, qA (nb l) x := by
 unfold pN at h
 split at h
 ·omega
 rename_i hd
 split at h
 ·omega
 rename_i ha
 refine ⟨Dm.1 hd, fun x hx => ?_⟩
 cases hr : decide (qA (nb l) x) with
 | true => exact Kq hr
 | false => exact absurd (Fm.2 ⟨x, hx, by rw [hr]; rfl⟩) ha
theorem Blq {l : List UInt8} {zs : List IoZ} (h : pN l zs = 0) : zs.map IoZ.av = (zs.map toIo).map IoV.av := by
 rw [Ha]
 exact Bk fun x hx => (Bfm ((Beb h).2 x hx)).1
theorem Bew {l : List UInt8} {zs : List IoZ} (h : pN l zs = 0) : ∀ x ∈ zs.map toIo, Oz (nb l) x := fun x hx => by
 obtain ⟨y, hy, rfl⟩ := Bz.1 hx
 exact (Bfm ((Beb h).2 y hy)).2
theorem Bla {l : List UInt8} {zs : List IoZ} (h : pN l zs = 0) : Lc l (zs.map toIo) = 0 := by
 unfold Lc
 rw [if_neg (fun hh => hh (Beb h).1), if_neg]
 intro ha
 obtain ⟨x, hx, hn⟩ := Fm.1 ha
 rw [As (Bew h x hx)] at hn
 cases hn
attribute [local irreducible] aops Br Cp Dp aop W WO
theorem Bkl (k : Nat) (hk : 1000100 ≤ k) (t f : Bool) (l : List UInt8) (zs : List IoZ) : FnV (CF k) Bck [.islc t f 1 (BL l), .islc false false 3 (zs.map IoZ.av)] (.bool (Bht l zs)) := by
 have hml : (BL l).length = l.length := BL_length l
 have hzl : (zs.map IoZ.av).length = zs.length := Ah _
 refine fnk (by omega) Bgd rfl ?_
 unfold Bbe Bht
 by_cases hl : l.length > 19200
 ·rw [As hl, Bool.true_or]
  repeat' (first | refine qS ?_ | refine qN ?_ | refine Bh (n := l.length) rfl hml rfl rfl ?_ | refine Bh (n := zs.length) rfl hzl rfl rfl ?_ | refine qQb ?_ | refine Ac (fun _ => ?_) (fun _ => ?_))
  all_goals exact ⟨Or.inr rfl, _, rfl, rfl⟩
 rw [Bb hl, Azi]
 by_cases hn : zs.length > 400
 ·rw [As hn, Bool.true_or]
  repeat' (first | refine qS ?_ | refine qN ?_ | refine Bh (n := l.length) rfl hml rfl rfl ?_ | refine Bh (n := zs.length) rfl hzl rfl rfl ?_ | refine qQb ?_ | refine Ac (fun _ => ?_) (fun _ => ?_))
  all_goals exact ⟨Or.inr rfl, _, rfl, rfl⟩
 rw [Bb hn, Azi]
 repeat' (first | refine qS ?_ | refine qN ?_ | refine Bh (n := l.length) rfl hml rfl rfl ?_ | refine Bh (n := zs.length) rfl hzl rfl rfl ?_ | refine qQb ?_ | refine Ac (fun _ => ?_) (fun _ => ?_))
 refine W.mono (Q := fun ex T' H' => (ex = .ret ∧ T' 4 = .bool true ∧ (zs.any fun x => decide (x.data.length > 300)) = true) ∨ (ex = .exit 0 ∧ (zs.any fun x => decide (x.data.length > 300)) = false)) ?_ ?_
 ·refine Fj zs.length (fun i T' H' => ((zs.take i).any fun x => decide (x.data.length > 300)) = false ∧ Has T' [(1, .islc false false 3 (zs.map IoZ.av)), (5, .int .i64 (i : Nat))]) ⟨rfl, rfl, rfl, trivial⟩ (by omega) ?_
  rintro i T H hi ⟨g, hT⟩
  rw [hT.eq]
  simp only [over]
  by_cases hlt : i < zs.length
  ·obtain ⟨⟨kd, a, d⟩, hx⟩ : ∃ x, x = zs[i] := ⟨_, rfl⟩
   have he2 : (zs.map IoZ.av)[(i : Int).toNat]? = some (.agg [.int .i64 kd, .int .i64 a, .islc false false 1 (BL d)]) := by
    rw [Bd, Bp, Aa hlt, ← hx]; rfl
   have hst : ((zs.take (i + 1)).any fun x => decide (x.data.length > 300)) = decide (d.length > 300) := by
    rw [Av hlt, Azl, g, ← hx]; simp
   have hmd : (BL d).length = d.length := BL_length d
   by_cases hd : d.length > 300
   ·skip
    repeat' (first
     | refine qS ?_ | refine qN ?_ | refine Bh (n := zs.length) rfl hzl rfl rfl ?_ | refine Da rfl rfl (by omega) he2 rfl rfl ?_
     | refine Bh (n := d.length) rfl hmd rfl rfl ?_ | refine qQba ?_ | refine Ac (fun _ => ?_) (fun _ => ?_))
    refine .inl ⟨rfl, rfl, Fm.2 ⟨zs[i], Bw hlt, ?_⟩⟩
    rw [← hx]; exact As hd
   ·rw [Bb hd] at hst
    repeat' (first
     | refine qS ?_ | refine qN ?_ | refine Bh (n := zs.length) rfl hzl rfl rfl ?_ | refine Da rfl rfl (by omega) he2 rfl rfl ?_
     | refine Bh (n := d.length) rfl hmd rfl rfl ?_ | refine qQba ?_ | refine Ac (fun _ => ?_) (fun _ => ?_))
    exact ⟨hlt, hst, rfl, by show AV.int _ _ = AV.int _ _; congr 1, trivial⟩
  ·have hin : i = zs.length := by omega
   subst hin
   rw [Ch] at g
   repeat' (first | refine qS ?_ | refine qN ?_ | refine Bh (n := zs.length) rfl hzl rfl rfl ?_ | refine qQba ?_ | refine Ac (fun _ => ?_) (fun _ => ?_))
   exact .inr ⟨rfl, g⟩
 rintro ex T2 H2 (⟨rfl, h4, ha⟩ | ⟨rfl, ha⟩)
 ·rw [ha]
  exact ⟨Or.inr rfl, _, rfl, by show fz true 6 H2 (T2 4) = _; rw [h4]; rfl⟩
 ·rw [ha]
  show W _ _
  repeat' (first | refine qS ?_ | refine qN ?_ | refine qQb ?_ | refine Ac (fun _ => ?_) (fun _ => ?_))
  exact ⟨Or.inr rfl, _, rfl, rfl⟩
theorem Yt (k : Nat) (hk : 1 ≤ k) (t f : Bool) (s : Nat) (l : List UInt8) (hs : s = 1 ∨ l = []) (hl : l.length < 1000000) : FnV (CF k) Bbh [.islc t f s (BL l)] (.islc false false 1 (BL l)) := by
 refine fnk (by omega) Bek rfl ?_
 unfold Bbr
 repeat' (first | refine qS ?_ | refine Avc (l := []) rfl rfl hs rfl rfl (by omega) rfl rfl (fun _ => ?_) | refine qQb ?_ | refine Bl fun _ => ?_)
 exact ⟨Or.inr rfl, _, rfl, Afm (l := l) rfl (by simp)⟩
theorem Bjf {k : Nat} {zs : List IoZ} {T : Tmps} {H : Heap} (hk : 1000010 ≤ k) (hzl : zs.length < 1000000) (hok : ∀ x ∈ zs, x.data.length < 1000000) (h1 : H 1 = ⟨1, false, .row 3 []⟩)
  (hT : Has T [(0, .islc false false 3 (zs.map IoZ.av)), (3, .slc 1 1 0 3 0 0 none), (4, .int .i64 0)]) :
  W (Br (CF k) noX 0 k (.loop Bat) T H) (fun ex T' H' => ex = .exit 0 ∧ H' 1 = ⟨1, false, .row 3 (zs.map IoZ.av)⟩ ∧ T' 3 = .slc 1 1 zs.length 3 0 zs.length none) := by
 refine Fj zs.length (fun i T' H' => H' 1 = ⟨1, false, .row 3 ((zs.take i).map IoZ.av)⟩ ∧ Has T' [(0, .islc false false 3 (zs.map IoZ.av)), (3, .slc 1 1 i 3 0 i none), (4, .int .i64 (i : Nat))]) ⟨h1, hT⟩ (by omega) ?_
 rintro i T H hi ⟨g1, hT⟩
 rw [hT.eq]
 simp only [over]
 unfold Bat
 have hml : (zs.map IoZ.av).length = zs.length := Ah _
 by_cases hlt : i < zs.length
 ·obtain ⟨y, hy⟩ : ∃ y, y = zs[i] := ⟨_, rfl⟩
  have hyo := hok y (by rw [hy]; exact Bw hlt)
  have hst : (zs.take (i + 1)).map IoZ.av = (zs.take i).map IoZ.av ++ [y.av] := by
   rw [Av hlt, ← hy]; simp
  have hes : ((zs.take i).map IoZ.av).length = i := by simp; omega
  have he2 : (zs.map IoZ.av)[(i : Int).toNat]? = some y.av := by
   rw [Bd, Bp, Aa hlt, ← hy]; rfl
  rw [hst]
  obtain ⟨kd, a, dt⟩ := y
  have hW := Yt k (by omega) false false 1 dt (.inl rfl) hyo
  generalize (zs.take i).map IoZ.av = es at *
  have he3 : (zs.map IoZ.av)[(i : Int).toNat]? = some (.agg [.int .i64 kd, .int .i64 a, .islc false false 1 (BL dt)]) := he2
  repeat' (first
   | refine qS ?_ | refine Bh (n := zs.length) rfl hml rfl rfl ?_ | refine Da rfl rfl (by omega) he3 rfl rfl ?_ | refine Ae hW ?_
   | refine Lm (e := .agg [.int .i64 kd, .int .i64 a, .islc false false 1 (BL dt)]) rfl rfl rfl (by exact g1) hes rfl (by omega) rfl rfl (fun _ => ?_) | refine qQba ?_
   | refine Ac (fun _ => ?_) (fun _ => ?_) | refine Bl fun _ => ?_)
  exact ⟨hlt, rfl, rfl, rfl, by show AV.int _ _ = AV.int _ _; congr 1, trivial⟩
 ·have hin : i = zs.length := by omega
  subst hin
  rw [Ch] at g1
  repeat' (first | refine qS ?_ | refine Bh (n := zs.length) rfl hml rfl rfl ?_ | refine qQba ?_ | refine Ac (fun _ => ?_) (fun _ => ?_) | refine Bl fun _ => ?_)
  exact ⟨rfl, g1, rfl⟩
theorem Bmj (n : Nat) (H : Heap) (l : List IoZ) : (l.map IoZ.av).map (fz true (n + 2) H) = l.map IoZ.av := by
 rw [Ha]
 exact Bk fun _ _ => rfl
theorem Blp (k : Nat) (hk : 1000020 ≤ k) (zs : List IoZ) (hzl : zs.length < 1000000) (hok : ∀ x ∈ zs, x.data.length < 1000000) : FnV (CF k) Bbb [.islc false false 3 (zs.map IoZ.av)] (.islc false false 3 (zs.map IoZ.av)) := by
 refine fnk (by omega) Bfs rfl ?_
 unfold keep_TwinIos
 repeat' (first | refine qQb ?_ | refine Ac (fun _ => ?_) (fun _ => ?_) | refine Bl fun _ => ?_)
 refine W.mono (Bjf (k := k - 1) (zs := zs) (by omega) hzl hok rfl ⟨rfl, rfl, rfl, trivial⟩) ?_
 rintro ex T2 H2 ⟨rfl, g1, h3⟩
 rw [Has.eq (T := T2) (ps := [(3, _)]) ⟨h3, trivial⟩]
 simp only [over]
 show W _ _
 repeat' (first | refine qQb ?_ | refine Ac (fun _ => ?_) (fun _ => ?_) | refine Bl fun _ => ?_)
 refine ⟨Or.inr rfl, _, rfl, ?_⟩
 show fz true (5 + 1) H2 (.slc 1 1 zs.length 3 0 zs.length none) = _
 rw [Tf (Fv g1 (by simp)) (by omega), Cb, Ai (by simp), Bmj 3]
 rfl
theorem Bfh {k : Nat} {H : Heap} {T : Tmps} {a : List IoZ} (ha : a.length < 1000000) (hok : ∀ x ∈ a, x.data.length < 1000000) (hk : 1000010 ≤ k)
  (hT : Has T [(0, .islc false false 3 (a.map IoZ.av)), (1, .islc false false 3 (a.map IoZ.av)), (5, .int .i64 0)]) :
  W (Br (CF k) noX 0 k (.loop Bef) T H) (fun ex T' H' => ex = .exit 0 ∧ H' = H) := by
 refine Fj a.length (fun i T' H' => H' = H ∧ Has T' [(0, .islc false false 3 (a.map IoZ.av)), (1, .islc false false 3 (a.map IoZ.av)), (5, .int .i64 (i : Nat))]) ⟨rfl, hT⟩ (by omega) ?_
 rintro i T H2 hi ⟨rfl, hT⟩
 rw [hT.eq]
 simp only [over]
 unfold Bef
 have hml : (a.map IoZ.av).length = a.length := Ah _
 by_cases hlt : i < a.length
 ·obtain ⟨⟨kd, a0, d⟩, hx⟩ : ∃ x, x = a[i] := ⟨_, rfl⟩
  have hdl := hok a[i] (Bw hlt)
  rw [← hx] at hdl
  simp only at hdl
  have he2 : (a.map IoZ.av)[(i : Int).toNat]? = some (.agg [.int .i64 kd, .int .i64 a0, .islc false false 1 (BL d)]) := by
   rw [Bd, Bp, Aa hlt, ← hx]; rfl
  have hby : FnV (CF k) Wu [.islc false false 1 (BL d), .islc false false 1 (BL d)] (.bool true) := by
   have := Atq k (by omega) false false false false 1 1 d d hdl hdl (.inl rfl) (.inl rfl)
   rwa [As rfl] at this
  repeat' (first | refine qS ?_ | refine qN ?_ | refine Bh (n := a.length) rfl hml rfl rfl ?_ | refine Da rfl rfl (by omega) he2 rfl rfl ?_ | refine Ae hby ?_ | refine qQba ?_ | refine Ac (fun _ => ?_) (fun _ => ?_))
  all_goals exact ⟨hlt, rfl, rfl, rfl, by show AV.int _ _ = AV.int _ _; congr 1, trivial⟩
 ·skip
  repeat' (first | refine qS ?_ | refine qN ?_ | refine Bh (n := a.length) rfl hml rfl rfl ?_ | refine qQba ?_ | refine Ac (fun _ => ?_) (fun _ => ?_))
  exact ⟨rfl, rfl⟩
theorem Bmf (k : Nat) (hk : 1000011 ≤ k) (a : List IoZ) (ha : a.length < 1000000) (hok : ∀ x ∈ a, x.data.length < 1000000) : FnV (CF k) Bfl [.islc false false 3 (a.map IoZ.av), .islc false false 3 (a.map IoZ.av)] (.bool true) := by
 refine fnk (by omega) Bjc rfl ?_
 unfold keep_Ios
 have hml : (a.map IoZ.av).length = a.length := Ah _
 repeat' (first | refine qS ?_ | refine qN ?_ | refine Bh (n := a.length) rfl hml rfl rfl ?_ | refine qQb ?_ | refine Ac (fun _ => ?_) (fun _ => ?_))
 refine W.mono (Bfh (k := k - 1) (a := a) ha hok (by omega) ⟨rfl, rfl, rfl, trivial⟩) ?_
 rintro ex T2 H2 ⟨rfl, rfl⟩
 show W _ _
 repeat' (first | refine qS ?_ | refine qN ?_ | refine qQb ?_ | refine Ac (fun _ => ?_) (fun _ => ?_))
 exact ⟨Or.inr rfl, _, rfl, rfl⟩
theorem Bkj (k : Nat) (hk : 1 ≤ k) (x : IoZ) (n : Nat) : FnV (CF k) mZ [x.av, .int .i64 n] (.bool (decide (qA n x))) := by
 obtain ⟨kd, a, d⟩ := x
 have hl : (BL d).length = d.length := by simp
 refine fnk (by omega) Aev rfl ?_
 unfold kE IoZ.av qA
 simp only
 repeat' (first | refine qS ?_ | refine qN ?_ | refine Bh (n := d.length) rfl hl rfl rfl ?_ | refine qQb ?_ | refine Ac (fun _ => ?_) (fun _ => ?_))
 all_goals
  refine ⟨Or.inr rfl, _, rfl, ?_⟩
  first
   | exact Bo AV.bool (As (by simp only [cmpP] at *; omega)).symm
   | exact Bo AV.bool (Bb (by simp only [cmpP] at *; omega)).symm
   | (exfalso; simp only [cmpP] at *; omega)
theorem Bjw (k : Nat) (hk : 2 ≤ k) (x : IoZ) (n : Nat) : FnV (CF k) Rf [x.av, .iptr true [.int .i64 n]] (.bool (!decide (qA n x))) := by
 have hr := Bkj (k - 1) (by omega) x n
 obtain ⟨kd, a, d⟩ := x
 unfold IoZ.av at hr ⊢
 refine fnk (by omega) uO rfl ?_
 unfold aV
 simp only at hr ⊢
 cases h : decide (qA n ⟨kd, a, d⟩) with
 | true =>
  rw [h] at hr
  repeat' (first | refine qS ?_ | refine Ae hr ?_ | refine qQb ?_ | fail)
  exact ⟨Or.inr rfl, _, rfl, rfl⟩
 | false =>
  rw [h] at hr
  repeat' (first | refine qS ?_ | refine Ae hr ?_ | refine qQb ?_ | fail)
  exact ⟨Or.inr rfl, _, rfl, rfl⟩
theorem Bhf (k : Nat) (hk : 1000010 ≤ k) (t f : Bool) (l : List IoZ) (fn : Nat) (caps : List AV) (p : IoZ → Bool) (hl : l.length < 1000000) (hz : ∀ a H, (IoZ.av a :: caps).map (fz false deep H) = IoZ.av a :: caps)
  (hp : ∀ i, i < l.length → FnV (CF (k - 1)) fn (IoZ.av (l.getD i default) :: caps) (.bool (p (l.getD i default)))) : FnV (CF k) Gp [.islc t f 3 (l.map IoZ.av), .fn fn caps] (.int .i64 (idxL p l 0)) := by
 refine fnk (by omega) Jq rfl ?_
 unfold Fh
 repeat' (first | refine qQb ?_ | refine Ac (fun _ => ?_) (fun _ => ?_))
 refine W.mono (Q := fun ex T' H' => (ex = .ret ∧ T' 4 = .int .i64 (idxL p l 0)) ∨ (ex = .exit 0 ∧ idxL p l 0 = -1)) ?_ ?_
 ·refine Fj l.length (fun i T' H' => idxL p l 0 = idxL p (l.drop i) i ∧ Has T' [(0, .islc t f 3 (l.map IoZ.av)), (1, .fn fn caps), (7, .int .i64 l.length), (8, .int .i64 (i : Nat))]) ⟨by simp, rfl, rfl, rfl, rfl, trivial⟩ (by omega) ?_
  rintro i T H hi ⟨hgo, hT⟩
  rw [hT.eq]
  simp only [over]
  by_cases hil : i < l.length
  ·rw [Qo hil] at hgo
   simp only [idxL] at hgo
   have hpi := hp i hil
   cases hb : p (l.getD i default) with
   | true =>
    rw [hb] at hgo hpi
    repeat' (first | refine qS ?_ | refine Gj (v := IoZ.av (l.getD i default)) ?_ (hv := by rfl) | refine bT hpi ?_ (ha := by exact hz _ _) | refine qQb ?_ | refine Ac (fun _ => ?_) (fun _ => ?_))
    exact .inl ⟨rfl, by rw [hgo]; rfl⟩
   | false =>
    rw [hb] at hgo hpi
    repeat' (first | refine qS ?_ | refine Gj (v := IoZ.av (l.getD i default)) ?_ (hv := by rfl) | refine bT hpi ?_ (ha := by exact hz _ _) | refine qQb ?_ | refine Ac (fun _ => ?_) (fun _ => ?_))
    exact ⟨hil, hgo, rfl, rfl, rfl, by show AV.int _ _ = AV.int _ _; congr 1, trivial⟩
  ·have hin : i = l.length := by omega
   repeat' (first | refine qQb ?_ | refine Ac (fun _ => ?_) (fun _ => ?_))
   refine .inr ⟨rfl, ?_⟩
   rw [hgo, hin, Lh]; rfl
 rintro ex T2 H2 (⟨rfl, h4⟩ | ⟨rfl, h⟩)
 ·exact ⟨Or.inr rfl, _, rfl, by show fz true 6 H2 (T2 4) = _; rw [h4]; rfl⟩
 ·rw [h]
  show W _ _
  repeat' (first | refine qQb ?_ | refine Ac (fun _ => ?_) (fun _ => ?_))
  exact ⟨Or.inr rfl, _, rfl, rfl⟩
theorem Bem (k : Nat) (hk : 1000011 ≤ k) (t f : Bool) (l : List IoZ) (fn : Nat) (caps : List AV) (p : IoZ → Bool) (hl : l.length < 1000000) (hcz : ∀ H, caps.map (fz false 5 H) = caps) (hz : ∀ a H, (IoZ.av a :: caps).map (fz false deep H) = IoZ.av a :: caps)
  (hp : ∀ i, i < l.length → FnV (CF (k - 2)) fn (IoZ.av (l.getD i default) :: caps) (.bool (p (l.getD i default)))) : FnV (CF k) Dq [.islc t f 3 (l.map IoZ.av), .fn fn caps] (.bool (l.any p)) := by
 have hi := Bhf (k - 1) (by omega) t f l fn caps p hl hz (by rw [Arw]; exact hp)
 rw [← bJ _ l 0]
 refine fnk (by omega) It rfl ?_
 unfold Eu
 repeat' (first | refine qS ?_ | refine Ae hi ?_ rfl (by show [_, AV.fn fn (caps.map (fz false 5 _))] = _; rw [hcz]; rfl) | refine qQb ?_ | refine Ac (fun _ => ?_) (fun _ => ?_))
 all_goals
  refine ⟨Or.inr rfl, _, rfl, ?_⟩
  rename_i h
  simp only [cmpP] at h
  first
   | (rw [As h]; rfl)
   | (rw [Bb h]; rfl)
theorem Bid (k : Nat) (hk : 1000030 ≤ k) (t f : Bool) (l : List UInt8) (hl : l.length < 1000000) (zs : List IoZ) (hil : zs.length < 100000) : FnV (CF k) mC [.islc t f 1 (BL l), .islc false false 3 (zs.map IoZ.av)] (.int .i64 (pN l zs)) := by
 have hck := Zj (k - 1) (by omega) t f 1 l hl
 have hml : (zs.map IoZ.av).length = zs.length := Ah _
 refine fnk (by omega) Adu rfl ?_
 unfold kY pN
 by_cases hd : devB l.length
 rotate_left 1
 ·rw [if_neg hd] at hck
  rw [if_pos hd]
  repeat' (first | refine Al (hck) (fun _ => ?_) (fun _ => ?_) | refine Ae (hck) ?_ | refine qQb ?_ | refine Ac (fun _ => ?_) (fun _ => ?_))
  exact ⟨Or.inr rfl, _, rfl, rfl⟩
 rw [if_pos hd] at hck
 rw [if_neg (fun h => h hd)]
 have hck : FnV (CF (k - 1)) Ur [.islc t f 1 (BL l)] (.tup [.int .i64 (nb l : Nat), .int .i64 0]) := hck
 have hcf := Bem (k - 1) (by omega) false false zs Rf [.iptr true [.int .i64 (nb l : Nat)]] (fun x => !decide (qA (nb l) x)) (by omega) (fun _ => rfl) (fun _ _ => rfl) (fun i hi => Bjw (k - 3) (by omega) _ _)
 cases ha : zs.any fun x => !decide (qA (nb l) x) with
 | true =>
  rw [ha] at hcf
  rw [if_pos rfl]
  repeat' (first
   | refine qS ?_ | refine Bh (n := zs.length) rfl hml rfl rfl ?_ | refine Ae hcf ?_ | refine Al (hck) (fun _ => ?_) (fun _ => ?_) | refine Ae (hck) ?_ | refine qQb ?_
   | refine Ac (fun _ => ?_) (fun _ => ?_))
  exact ⟨Or.inr rfl, _, rfl, rfl⟩
 | false =>
  rw [ha] at hcf
  rw [if_neg (by decide)]
  repeat' (first
   | refine qS ?_ | refine Bh (n := zs.length) rfl hml rfl rfl ?_ | refine Ae hcf ?_ | refine Al (hck) (fun _ => ?_) (fun _ => ?_) | refine Ae (hck) ?_ | refine qQb ?_
   | refine Ac (fun _ => ?_) (fun _ => ?_))
  exact ⟨Or.inr rfl, _, rfl, rfl⟩
theorem Bhx (x : IoZ) : (toIo x).kind = 2 ↔ x.kind = 2 := by unfold toIo; simp only; omega
theorem Bge {k : Nat} {zs : List IoZ} {T : Tmps} {H : Heap} (hk : 1000000 ≤ k) (hl : zs.length < 100000) (h1 : H 1 = ⟨1, false, .row 1 []⟩)
  (hT : Has T [(3, .slc 1 1 0 1 0 0 none), (6, .islc false false 3 (zs.map IoZ.av)), (7, .int .i64 zs.length), (8, .int .i64 0)]) :
  W (Br (CF k) noX 0 k (.loop Ayo) T H) (fun ex T' H' => ex = .exit 0 ∧ H' 1 = ⟨1, false, .row 1 (NL (Zs (zs.map toIo)))⟩ ∧ T' 3 = .slc 1 1 (Zs (zs.map toIo)).length 1 0 (Zs (zs.map toIo)).length none) := by
 refine Fj zs.length (fun i T' H' => H' 1 = ⟨1, false, .row 1 (NL (Zs ((zs.map toIo).take i)))⟩ ∧ Has T' [(3, .slc 1 1 (Zs ((zs.map toIo).take i)).length 1 0 (Zs ((zs.map toIo).take i)).length none), (6, .islc false false 3 (zs.map IoZ.av)), (7, .int .i64 zs.length), (8, .int .i64 (i : Nat))]) ⟨h1, hT⟩ (by omega) ?_
 rintro i T H hi ⟨g1, hT⟩
 rw [hT.eq]
 simp only [over]
 unfold Ayo
 have hml : (zs.map toIo).length = zs.length := Ah _
 by_cases hlt : i < zs.length
 ·have hst := Ays (l := zs.map toIo) (i := i) (by omega)
  rw [Li] at hst
  obtain ⟨x, hx⟩ : ∃ x, x = zs[i] := ⟨_, rfl⟩
  rw [← hx] at hst
  have h22 := Bhx x
  have he1 : (zs.map IoZ.av)[(i : Int).toNat]? = some x.av := by
   rw [Bd, Bp, Aa hlt, ← hx]; rfl
  rw [hst]
  have hfl : (Zs ((zs.map toIo).take i)).length ≤ i := Ic (rA _) (by rw [Bc]; omega)
  generalize Zs ((zs.map toIo).take i) = F at *
  have hfn : (NL F).length = F.length := Bm F
  obtain ⟨kd, a, d⟩ := x
  have he2 : (zs.map IoZ.av)[(i : Int).toNat]? = some (.agg [.int .i64 kd, .int .i64 a, .islc false false 1 (BL d)]) := he1
  simp only at h22
  by_cases h2' : kd = 2
  ·rw [if_pos (h22.2 h2')]
   subst h2'
   repeat' (first
    | refine qS ?_ | refine Da rfl rfl (by omega) he2 rfl rfl ?_ | refine Bhm rfl rfl rfl (by exact g1) hfn rfl (by omega) rfl rfl (fun _ => ?_) | refine qQba ?_
    | refine Ac (fun _ => ?_) (fun _ => ?_) | refine Bl fun _ => ?_)
   refine ⟨hlt, ?_, ?_, rfl, rfl, by show AV.int _ _ = AV.int _ _; congr 1, trivial⟩
   ·rw [iV]; rfl
   ·rw [An]; rfl
  ·rw [if_neg (fun h => h2' (h22.1 h)), Bv]
   repeat' (first | refine qS ?_ | refine Da rfl rfl (by omega) he2 rfl rfl ?_ | refine qQba ?_ | refine Ac (fun _ => ?_) (fun _ => ?_) | refine Bl fun _ => ?_)
   exact ⟨hlt, g1, rfl, rfl, rfl, by show AV.int _ _ = AV.int _ _; congr 1, trivial⟩
 ·have hin : i = zs.length := by omega
  subst hin
  rw [Ai (by omega)] at g1 ⊢
  repeat' (first | refine qQb ?_ | refine Ac (fun _ => ?_) (fun _ => ?_) | refine Bl fun _ => ?_)
  exact ⟨rfl, g1, rfl⟩
theorem Bjd (k : Nat) (hk : 1000001 ≤ k) (zs : List IoZ) (hl : zs.length < 100000) : FnV (CF k) Azt [.islc false false 3 (zs.map IoZ.av)] (.islc false false 1 (NL (Zs (zs.map toIo)))) := by
 have hml : (zs.map IoZ.av).length = zs.length := Ah _
 refine fnk (by omega) Bco rfl ?_
 unfold dev_Flushes
 repeat' (first | refine qS ?_ | refine Bh (n := zs.length) rfl hml rfl rfl ?_ | refine qQb ?_ | refine Ac (fun _ => ?_) (fun _ => ?_) | refine Bl fun _ => ?_)
 refine W.mono (Bge (k := k - 1) (zs := zs) (by omega) hl rfl ⟨rfl, rfl, rfl, rfl, trivial⟩) ?_
 rintro ex T2 H2 ⟨rfl, g1, h3⟩
 rw [Has.eq (T := T2) (ps := [(3, _)]) ⟨h3, trivial⟩]
 simp only [over]
 show W _ _
 repeat' (first | refine qQb ?_ | refine Ac (fun _ => ?_) (fun _ => ?_) | refine Bl fun _ => ?_)
 refine ⟨Or.inr rfl, _, rfl, ?_⟩
 show fz true (4 + 2) H2 (AV.slc _ _ _ _ _ _ _) = _
 exact Gb g1 rfl 4
theorem Bij (k : Nat) (hk : 1000010 ≤ k) (zs : List IoZ) (hil : zs.length < 100000) : FnV (CF k) Ayz [.islc false false 3 (zs.map IoZ.av)] (.int .i64 ((Zs (zs.map toIo)).length / 2 : Nat)) := by
 have hfl := Bjd (k - 1) (by omega) zs hil
 have hfn : (NL (Zs (zs.map toIo))).length = (Zs (zs.map toIo)).length := Bm _
 have hb : (Zs (zs.map toIo)).length < 100000 := Nat.lt_of_le_of_lt (rA _) (by rw [Ah]; exact hil)
 generalize Zs (zs.map toIo) = F at *
 refine fnk (by omega) Bav rfl ?_
 unfold Ayy
 repeat' (first | refine qS ?_ | refine Ae hfl ?_ | refine Bh (n := F.length) rfl hfn rfl rfl ?_ | refine qQ ?_ | fail)
 refine ⟨Or.inr rfl, _, rfl, ?_⟩
 show AV.int _ _ = AV.int _ _
 congr 1
def Bmb (e : Nat) : AV := .tup [.agg [.islc false true 0 [], .islc false true 0 [], .islc false true 0 []], .int .i64 e]
theorem Bkn (k : Nat) (hk : 1000300 ≤ k) (l : List UInt8) (hl : l.length < 1000000) (zs : List IoZ) (hil : zs.length < 100000) (he : pN l zs ≠ 0) (cut : Int) (keep : List Bool) :
  FnV (CF k) Ayx [.islc false false 1 (BL l), .islc false false 3 (zs.map IoZ.av), .int .i64 cut, .islc false false 1 (keep.map AV.bool)] (Bmb (pN l zs)) := by
 have hst := Bid (k - 2) (by omega) false false l hl zs hil
 have hlt : pN l zs ≤ 2 := by unfold pN; split <;> (try split) <;> omega
 generalize pN l zs = e at *
 have hC : FnV (CF (k - 1)) Bay [.islc false false 1 (BL l), .islc false false 3 (zs.map IoZ.av), .int .i64 cut, .islc false false 1 (keep.map AV.bool)] (.tup [.islc false true 0 [], .int .i64 e]) := by
  refine fnk (by omega) Beh rfl ?_
  unfold dev_Crash
  have hst : FnV (CF (k - 1 - 1)) mC [.islc false false 1 (BL l), .islc false false 3 (zs.map IoZ.av)] (.int .i64 e) := hst
  have he' : (e : Int) ≠ 0 := by omega
  repeat' (first | refine qS ?_ | refine qN ?_ | refine Ae hst ?_ | refine qQb ?_ | refine Ac (fun _ => ?_) (fun _ => ?_))
  exact ⟨Or.inr rfl, _, rfl, rfl⟩
 refine fnk (by omega) Bci rfl ?_
 unfold Azo
 have he' : (e : Int) ≠ 0 := by omega
 repeat' (first | refine qS ?_ | refine Ae hC ?_ | refine qQb ?_ | refine Ac (fun _ => ?_) (fun _ => ?_))
 exact ⟨Or.inr rfl, _, rfl, rfl⟩
theorem Bkd (k : Nat) (hk : 1000300 ≤ k) (l : List UInt8) (hl : l.length < 1000000) (zs : List IoZ) (hil : zs.length < 100000) (he : pN l zs ≠ 0) :
  FnV (CF k) Ayt [.islc false false 1 (BL l), .islc false false 3 (zs.map IoZ.av)] (.tup [.islc false false 3 [], .int .i64 (pN l zs)]) := by
 have hst := Bid (k - 1) (by omega) false false l hl zs hil
 have hlt : pN l zs ≤ 2 := by unfold pN; split <;> (try split) <;> omega
 generalize pN l zs = e at *
 refine fnk (by omega) Baz rfl ?_
 unfold crash_States
 have he' : (e : Int) ≠ 0 := by omega
 repeat' (first | refine qS ?_ | refine Ae hst ?_ | refine qQ ?_ | refine Ac (fun _ => ?_) (fun _ => ?_) | refine Bl fun _ => ?_)
 exact ⟨Or.inr rfl, _, rfl, rfl⟩
theorem Bhi {k n : Nat} {zs : List IoZ} {T : Tmps} {H : Heap} (hk : 1000000 ≤ k) (hil : zs.length < 100000) (hn : n < 100000) (hT : Has T [(1, .islc false false 3 (zs.map IoZ.av)), (5, .int .i64 (n : Nat)), (7, .int .i64 0)]) :
  W (Br (CF k) noX 0 k (.loop Bbd) T H) (fun ex T' H' => (ex = .ret ∧ T' 4 = .int .i64 1 ∧ (zs.any fun x => !decide (qA n x)) = true) ∨ (ex = .exit 0 ∧ (zs.any fun x => !decide (qA n x)) = false)) := by
 refine Fj zs.length (fun i T' H' => ((zs.take i).any fun x => !decide (qA n x)) = false ∧ Has T' [(1, .islc false false 3 (zs.map IoZ.av)), (5, .int .i64 (n : Nat)), (7, .int .i64 (i : Nat))]) ⟨rfl, hT⟩ (by omega) ?_
 rintro i T H hi ⟨g, hT⟩
 rw [hT.eq]
 simp only [over]
 unfold Bbd
 have hzl : (zs.map IoZ.av).length = zs.length := Ah _
 by_cases hlt : i < zs.length
 ·obtain ⟨x, hx⟩ : ∃ x, x = zs[i] := ⟨_, rfl⟩
  have hst : ((zs.take (i + 1)).any fun x => !decide (qA n x)) = !decide (qA n x) := by
   rw [Av hlt, Azl, g, ← hx]; simp
  have hbad : ¬ qA n x → (zs.any fun x => !decide (qA n x)) = true := fun h => Fm.2 ⟨x, by rw [hx]; exact Bw hlt, by rw [Bb h]; rfl⟩
  have hgood : qA n x → ((zs.take (i + 1)).any fun x => !decide (qA n x)) = false := fun h => by rw [hst, As h]; rfl
  clear hst
  have he1 : (zs.map IoZ.av)[(i : Int).toNat]? = some x.av := by
   rw [Bd, Bp, Aa hlt, ← hx]; rfl
  clear hx
  obtain ⟨kd, a, d⟩ := x
  have he2 : (zs.map IoZ.av)[(i : Int).toNat]? = some (.agg [.int .i64 kd, .int .i64 a, .islc false false 1 (BL d)]) := he1
  clear he1
  unfold qA at hbad hgood
  simp only at hbad hgood
  have hmd : (BL d).length = d.length := BL_length d
  have hin := r_In k (by omega) a 0 ((n : Int) - 1)
  by_cases h1 : kd = 1
  ·subst h1
   by_cases ha : 0 ≤ a ∧ a < n
   ·rw [show inR a 0 ((n : Int) - 1) = true from inR_iff.2 (by omega)] at hin
    by_cases hd : d.length = 64
    ·skip
     repeat' (first
      | refine qS ?_ | refine qN ?_ | refine Bh (n := zs.length) rfl hzl rfl rfl ?_ | refine Da rfl rfl (by omega) he2 rfl rfl ?_
      | refine Bh (n := d.length) rfl hmd rfl rfl ?_ | refine Ae hin ?_ | refine qQba ?_ | refine Ac (fun _ => ?_) (fun _ => ?_))
     exact ⟨hlt, hgood (by omega), rfl, rfl, by show AV.int _ _ = AV.int _ _; congr 1, trivial⟩
    ·skip
     repeat' (first
      | refine qS ?_ | refine qN ?_ | refine Bh (n := zs.length) rfl hzl rfl rfl ?_ | refine Da rfl rfl (by omega) he2 rfl rfl ?_
      | refine Bh (n := d.length) rfl hmd rfl rfl ?_ | refine Ae hin ?_ | refine qQba ?_ | refine Ac (fun _ => ?_) (fun _ => ?_))
     exact .inl ⟨rfl, rfl, hbad (by omega)⟩
   ·rw [show inR a 0 ((n : Int) - 1) = false from inR_f.2 (by omega)] at hin
    repeat' (first
     | refine qS ?_ | refine qN ?_ | refine Bh (n := zs.length) rfl hzl rfl rfl ?_ | refine Da rfl rfl (by omega) he2 rfl rfl ?_
     | refine Bh (n := d.length) rfl hmd rfl rfl ?_ | refine Ae hin ?_ | refine qQba ?_ | refine Ac (fun _ => ?_) (fun _ => ?_))
    exact .inl ⟨rfl, rfl, hbad (by omega)⟩
  by_cases h2 : kd = 2
  ·subst h2
   by_cases ha : a = 0
   ·by_cases hd : d.length = 0
    ·skip
     repeat' (first
      | refine qS ?_ | refine qN ?_ | refine Bh (n := zs.length) rfl hzl rfl rfl ?_ | refine Da rfl rfl (by omega) he2 rfl rfl ?_
      | refine Bh (n := d.length) rfl hmd rfl rfl ?_ | refine Ae hin ?_ | refine qQba ?_ | refine Ac (fun _ => ?_) (fun _ => ?_))
     exact ⟨hlt, hgood (by omega), rfl, rfl, by show AV.int _ _ = AV.int _ _; congr 1, trivial⟩
    ·skip
     repeat' (first
      | refine qS ?_ | refine qN ?_ | refine Bh (n := zs.length) rfl hzl rfl rfl ?_ | refine Da rfl rfl (by omega) he2 rfl rfl ?_
      | refine Bh (n := d.length) rfl hmd rfl rfl ?_ | refine Ae hin ?_ | refine qQba ?_ | refine Ac (fun _ => ?_) (fun _ => ?_))
     exact .inl ⟨rfl, rfl, hbad (by omega)⟩
   ·skip
    repeat' (first
     | refine qS ?_ | refine qN ?_ | refine Bh (n := zs.length) rfl hzl rfl rfl ?_ | refine Da rfl rfl (by omega) he2 rfl rfl ?_
     | refine Bh (n := d.length) rfl hmd rfl rfl ?_ | refine Ae hin ?_ | refine qQba ?_ | refine Ac (fun _ => ?_) (fun _ => ?_))
    exact .inl ⟨rfl, rfl, hbad (by omega)⟩
  ·skip
   repeat' (first
    | refine qS ?_ | refine qN ?_ | refine Bh (n := zs.length) rfl hzl rfl rfl ?_ | refine Da rfl rfl (by omega) he2 rfl rfl ?_ | refine Bh (n := d.length) rfl hmd rfl rfl ?_
    | refine Ae hin ?_ | refine qQba ?_ | refine Ac (fun _ => ?_) (fun _ => ?_))
   exact .inl ⟨rfl, rfl, hbad (by omega)⟩
 ·have hin : i = zs.length := by omega
  subst hin
  rw [Ch] at g
  repeat' (first | refine qS ?_ | refine qN ?_ | refine Bh (n := zs.length) rfl hzl rfl rfl ?_ | refine qQba ?_ | refine Ac (fun _ => ?_) (fun _ => ?_))
  exact .inr ⟨rfl, g⟩
theorem Blg (k : Nat) (hk : 1000100 ≤ k) (l : List UInt8) (hl : l.length < 1000000) (zs : List IoZ) (hil : zs.length < 100000) : FnV (CF k) Bcg [.islc false false 1 (BL l), .islc false false 3 (zs.map IoZ.av)] (.int .i64 (pN l zs)) := by
 have hbk := Bff (k - 1) (by omega) false false l hl
 have hzl : (zs.map IoZ.av).length = zs.length := Ah _
 refine fnk (by omega) Bfx rfl ?_
 unfold ref01_Steps pN
 by_cases hd : devB l.length
 rotate_left 1
 ·rw [Bb hd] at hbk
  rw [if_pos hd]
  repeat' (first | refine qS ?_ | refine qN ?_ | refine Bh (n := zs.length) rfl hzl rfl rfl ?_ | refine Al (hbk) (fun _ => ?_) (fun _ => ?_) | refine Ae (hbk) ?_ | refine qQb ?_ | refine Ac (fun _ => ?_) (fun _ => ?_))
  exact ⟨Or.inr rfl, _, rfl, rfl⟩
 rw [As hd] at hbk
 rw [if_neg (fun h => h hd)]
 have hbk : FnV (CF (k - 1)) Ayf [.islc false false 1 (BL l)] (.tup [.int .i64 (nb l : Nat), .bool true]) := hbk
 have hnb : nb l < 100000 := by unfold nb; omega
 repeat' (first | refine qS ?_ | refine qN ?_ | refine Bh (n := zs.length) rfl hzl rfl rfl ?_ | refine Al (hbk) (fun _ => ?_) (fun _ => ?_) | refine Ae (hbk) ?_ | refine qQb ?_ | refine Ac (fun _ => ?_) (fun _ => ?_))
 refine W.mono (Bhi (k := k - 1) (n := nb l) (zs := zs) (by omega) hil hnb ⟨rfl, rfl, rfl, trivial⟩) ?_
 rintro ex T2 H2 (⟨rfl, h4, ha⟩ | ⟨rfl, ha⟩)
 ·rw [if_pos ha]
  exact ⟨Or.inr rfl, _, rfl, by show fz true 6 H2 (T2 4) = _; rw [h4]; rfl⟩
 ·rw [if_neg (by rw [ha]; decide)]
  show W _ _
  repeat' (first | refine qS ?_ | refine qN ?_ | refine qQb ?_ | refine Ac (fun _ => ?_) (fun _ => ?_))
  exact ⟨Or.inr rfl, _, rfl, rfl⟩
theorem Blu {m d : List UInt8} {a : Nat} (h : d.length = 64) : (BL m).take (0 + 64 * a) ++ BL d ++ (BL m).drop (0 + 64 * a + (BL d).length) = BL (wr m a d) := by
 unfold wr
 rw [BL_length, h, show 64 * (a + 1) = 0 + 64 * a + 64 by omega, Cq]
 simp [BL]
theorem Bhl {k : Nat} {l : List UInt8} {ios : List IoV} {v : Nat} {T : Tmps} {H : Heap} {t' f' : Bool} {s' : Nat} (hk : 1000000 ≤ k) (hv : l.length = v) (hl : v < 1000000) (hil : ios.length < 100000) (hs : s' = 3 ∨ ios = []) (hok : ∀ x ∈ ios, Oz (nb l) x ∧ (x.s = 1 ∨ x.data = []))
  (h0 : H 1 = ⟨1, false, .row 1 (BL l)⟩) (hT : Has T [(1, .islc t' f' s' (ios.map IoV.av)), (5, .slc 1 1 v 1 0 v none), (6, .int .i64 0)]) :
  W (Br (CF k) noX 0 k (.loop Bbj) T H) (fun ex T' H' => ex = .exit 0 ∧ H' 1 = ⟨1, false, .row 1 (BL (Bt l ios))⟩ ∧ T' 5 = .slc 1 1 v 1 0 v none) := by
 refine Fj ios.length (fun i T' H' => H' 1 = ⟨1, false, .row 1 (BL (Bt l (ios.take i)))⟩ ∧ Has T' [(1, .islc t' f' s' (ios.map IoV.av)), (5, .slc 1 1 v 1 0 v none), (6, .int .i64 (i : Nat))]) ⟨h0, hT⟩ (by omega) ?_
 rintro i T H hi ⟨g0, hT⟩
 have hlen : (Bt l (ios.take i)).length = v := by rw [Of _ _ (fun x hx => fA (hok x (Bs hx)).1)]; exact hv
 rw [hT.eq]
 simp only [over]
 unfold Bbj
 have hml : (ios.map IoV.av).length = ios.length := Ah _
 by_cases hlt : i < ios.length
 ·obtain rfl : s' = 3 := hs.resolve_right (fun h => by rw [h] at hlt; simp at hlt)
  obtain ⟨x, hx⟩ : ∃ x, x = ios[i] := ⟨_, rfl⟩
  have hxo := hok ios[i] (Bw hlt)
  have hst : Bt l (ios.take (i + 1)) = (if x.kind = 1 then wr (Bt l (ios.take i)) x.at0 x.data else Bt l (ios.take i)) := by
   rw [Av hlt, ← hx]
   unfold Bt
   rw [Anl]; rfl
  rw [← hx] at hxo
  have he1 : (ios.map IoV.av)[(i : Int).toNat]? = some x.av := by
   rw [Bd, Bp, Aa hlt, ← hx]; rfl
  clear hx
  rw [hst]
  clear hst
  obtain ⟨kd, a, d, t, f, s⟩ := x
  have he2 : (ios.map IoV.av)[(i : Int).toNat]? = some (.agg [.int .i64 kd, .int .i64 a, .islc t f s (BL d)]) := he1
  clear he1
  obtain ⟨hr, hsd⟩ := hxo
  simp only at hsd
  unfold Oz at hr
  simp only at hr ⊢
  generalize Bt l (ios.take i) = m at *
  by_cases hkd : kd = 1
  ·have hkd' : (kd : Int) = 1 := by omega
   rw [if_pos hkd]
   have hra : a < nb l ∧ d.length = 64 := by omega
   have hle : 64 * (a + 1) ≤ v := by have := hra.1; unfold nb at this; omega
   have hsd1 : s = 1 := hsd.resolve_right (fun h => by have := hra.2; rw [h] at this; simp at this)
   subst hsd1
   have hbm : (BL m).length = v := by simpa using hlen
   have hbd : (BL d).length = 64 := by simpa using hra.2
   have hnew : (⟨1, false, .row 1 ((BL m).take (0 + 64 * a) ++ BL d ++ (BL m).drop (0 + 64 * a + (BL d).length))⟩ : Blk) = ⟨1, false, .row 1 (BL (wr m a d))⟩ := by rw [Blu hra.2]
   have e1 : ((a : Int) * 64) = ((64 * a : Nat) : Int) := by omega
   repeat' (first
    | refine qS ?_ | refine Bh (n := ios.length) rfl hml rfl rfl ?_ | refine Da rfl rfl (by omega) he2 rfl rfl ?_ | (rw [e1])
    | refine Vs (a := 64 * a) (b := v) rfl (by exact g0) hbm (Ev rfl) rfl (by omega) (by show _ ≤ v - 0; omega) (by show 0 + (v - 0) ≤ v; omega) rfl rfl ?_
    | refine Aph (m := BL d) (es := BL m) rfl rfl (.inl rfl) (Lz d) (by exact g0) hbm (by omega) (by omega) rfl (by kernel_rfl) ?_ | refine qQba ?_
    | refine Ac (fun _ => ?_) (fun _ => ?_))
   exact ⟨hlt, hnew, rfl, rfl, by show AV.int _ _ = AV.int _ _; congr 1, trivial⟩
  ·have hkd' : (kd : Int) ≠ 1 := by omega
   rw [if_neg hkd]
   repeat' (first | refine qS ?_ | refine Bh (n := ios.length) rfl hml rfl rfl ?_ | refine Da rfl rfl (by omega) he2 rfl rfl ?_ | refine qQba ?_ | refine Ac (fun _ => ?_) (fun _ => ?_))
   exact ⟨hlt, g0, rfl, rfl, by show AV.int _ _ = AV.int _ _; congr 1, trivial⟩
 ·have hin : i = ios.length := by omega
  subst hin
  rw [Ch] at g0
  repeat' (first | refine qS ?_ | refine Bh (n := ios.length) rfl hml rfl rfl ?_ | refine qQba ?_ | refine Ac (fun _ => ?_) (fun _ => ?_))
  exact ⟨rfl, g0, rfl⟩
theorem Bln (k : Nat) (hk : 1000010 ≤ k) (l : List UInt8) (hl : l.length < 1000000) (t' f' : Bool) (s' : Nat) (ios : List IoV) (hs : s' = 3 ∨ ios = []) (hil : ios.length < 100000) (hok : ∀ x ∈ ios, Oz (nb l) x ∧ (x.s = 1 ∨ x.data = [])) :
  FnV (CF k) Bbz [.islc false false 1 (BL l), .islc t' f' s' (ios.map IoV.av)] (.islc false false 1 (BL (Bt l ios))) := by
 have hlen : (Bt l ios).length = l.length := Of _ _ fun x hx => fA (hok x hx).1
 refine fnk (by omega) Bfy rfl ?_
 unfold ref01_Apply
 repeat' (first | refine qS ?_ | refine Avc (l := []) rfl rfl (.inl rfl) rfl rfl (by omega) rfl rfl (fun _ => ?_) | refine qQb ?_ | refine Ac (fun _ => ?_) (fun _ => ?_) | refine Bl fun _ => ?_)
 refine W.mono (Bhl (k := k - 1) (l := l) (ios := ios) (t' := t') (f' := f') (s' := s') (v := 0 + l.length) (by omega) (by omega) (by omega) hil hs hok rfl ⟨rfl, rfl, rfl, trivial⟩) ?_
 rintro ex T2 H2 ⟨rfl, g1, h3⟩
 rw [Has.eq (T := T2) (ps := [(5, _)]) ⟨h3, trivial⟩]
 simp only [over]
 show W _ _
 repeat' (first | refine qQb ?_ | refine Ac (fun _ => ?_) (fun _ => ?_) | refine Bl fun _ => ?_)
 refine ⟨Or.inr rfl, _, rfl, ?_⟩
 exact Afm g1 (by omega)
theorem Bfv {k : Nat} {l : List UInt8} {f : Bool} {m : List Nat} {size : Nat} {T : Tmps} {H : Heap} (hk : 1000000 ≤ k) (hd : Dev l) (hm : ∀ a ∈ m, a < nb l) (hml : m.length < 100000) (hsz : size ≤ m.length)
  (h1 : H 1 = ⟨1, false, .row 1 []⟩)
  (hT : Has T [(0, .islc false f 1 (BL l)), (1, .islc false false 1 (NL m)), (2, .int .i64 (size : Nat)), (7, .slc 1 1 0 1 0 0 none), (8, .int .i64 0)]) :
  W (Br (CF k) noX 0 k (.loop Azw) T H) (fun ex T' H' => ex = .exit 0 ∧ H' 1 = ⟨1, false, .row 1 (((m.take size).map (secB l)).map Hq)⟩ ∧ T' 7 = .slc 1 1 size 1 0 size none) := by
 refine Fj size (fun i T' H' => H' 1 = ⟨1, false, .row 1 (((m.take i).map (secB l)).map Hq)⟩ ∧ Has T' [(0, .islc false f 1 (BL l)), (1, .islc false false 1 (NL m)), (2, .int .i64 (size : Nat)), (7, .slc 1 1 i 1 0 i none), (8, .int .i64 (i : Nat))]) ⟨h1, hT⟩ (by omega) ?_
 rintro i T H hi ⟨g1, hT⟩
 rw [hT.eq]
 simp only [over]
 unfold Azw
 by_cases hls : i < size
 ·have hlt : i < m.length := by omega
  obtain ⟨a, ha⟩ : ∃ a, a = m[i] := ⟨_, rfl⟩
  have han : a < nb l := by rw [ha]; exact hm _ (Bw hlt)
  have hle := hd.le han
  have he2 : (NL m)[(i : Int).toNat]? = some (.int .i64 (a : Nat)) := by
   rw [Bd]; unfold NL; rw [Bp, Aa hlt, ← ha]; rfl
  have hst : ((m.take (i + 1)).map (secB l)).map Hq = ((m.take i).map (secB l)).map Hq ++ [Hq (secB l a)] := by
   rw [Av hlt, ← ha]; simp
  have hlen : (((m.take i).map (secB l)).map Hq).length = i := by simp; omega
  have hz0 : List.replicate 64 (AV.int .u8 0) = BL (List.replicate 64 0) := by unfold BL; rw [Ij]; rfl
  rw [hst]
  generalize ((m.take i).map (secB l)).map Hq = es at *
  by_cases h0 : a = 0
  ·have h0' : (a : Int) = 0 := by omega
   have hsb : secB l a = List.replicate 64 0 := by unfold secB; rw [if_pos h0]
   repeat' (first
    | refine qS ?_ | refine Da rfl rfl (by omega) he2 rfl rfl ?_ | refine Un 64 rfl rfl rfl (by decide) rfl rfl rfl ?_
    | refine Ajl rfl rfl rfl (pY (l := List.replicate 64 0) (by exact Bo (fun z => (⟨_, false, .row 1 z⟩ : Blk)) hz0) rfl) (by exact g1) hlen (by omega) rfl rfl (fun _ => ?_)
    | refine qQba ?_ | refine Ac (fun _ => ?_) (fun _ => ?_) | refine Bl fun _ => ?_)
   exact ⟨hls, by rw [hsb]; rfl, rfl, rfl, rfl, rfl, by show AV.int _ _ = AV.int _ _; congr 1, trivial⟩
  ·have h0' : (a : Int) ≠ 0 := by omega
   have hsb : secB l a = blk l a := by unfold secB; rw [if_neg h0]
   have hbl : (blk l a).length = 64 := bV hle
   have hof := Ban k (by omega) false f l a hd.1 hle
   have hrl : (List.replicate 64 (AV.int .u8 0)).length = 64 := rfl
   have hml2 : (BL (blk l a)).length = 64 := by simpa using hbl
   have hrow : (List.replicate 64 (AV.int .u8 0)).take 0 ++ BL (blk l a) ++ (List.replicate 64 (AV.int .u8 0)).drop (0 + 64) = BL (blk l a) := by
    rw [Nr, Dd, Ce (by simp), Bv]
   repeat' (first
    | refine qS ?_ | refine Da rfl rfl (by omega) he2 rfl rfl ?_ | refine Un 64 rfl rfl rfl (by decide) rfl rfl rfl ?_ | refine Ih (hof _ _) rfl rfl rfl ?_
    | refine aR (m := BL (blk l a)) (es := List.replicate 64 (AV.int .u8 0)) rfl rfl (.inl rfl) (Lz _) rfl hrl (by omega) hml2 rfl rfl ?_
    | refine Ajl rfl rfl rfl (pY (l := blk l a) (by exact Bo (fun z => (⟨_, false, .row 1 z⟩ : Blk)) hrow) hbl) (by exact g1) hlen (by omega) rfl rfl (fun _ => ?_)
    | refine qQba ?_ | refine Ac (fun _ => ?_) (fun _ => ?_) | refine Bl fun _ => ?_)
   exact ⟨hls, by rw [hsb]; rfl, rfl, rfl, rfl, rfl, by show AV.int _ _ = AV.int _ _; congr 1, trivial⟩
 ·have hin : i = size := by omega
  subst hin
  repeat' (first | refine qQb ?_ | refine Ac (fun _ => ?_) (fun _ => ?_) | refine Bl fun _ => ?_)
  exact ⟨rfl, g1, rfl⟩
theorem Bgi (k : Nat) (hk : 1000010 ≤ k) (f : Bool) (l : List UInt8) (hd : Dev l) (m : List Nat) (hm : ∀ a ∈ m, a < nb l) (hml : m.length < 100000) (size : Nat) (hs : size ≤ m.length) :
  FnV (CF k) Bar [.islc false f 1 (BL l), .islc false false 1 (NL m), .int .i64 size] (Vj (Nw l m size)) := by
 refine fnk (by omega) Bel rfl ?_
 unfold ref10_Sectors
 repeat' (first | refine qQb ?_ | refine Ac (fun _ => ?_) (fun _ => ?_) | refine Bl fun _ => ?_)
 refine W.mono (Bfv (k := k - 1) (l := l) (f := f) (m := m) (size := size) (by omega) hd hm hml hs rfl ⟨rfl, rfl, rfl, rfl, rfl, trivial⟩) ?_
 rintro ex T2 H2 ⟨rfl, g1, h7⟩
 rw [Has.eq (T := T2) (ps := [(7, _)]) ⟨h7, trivial⟩]
 simp only [over]
 show W _ _
 repeat' (first | refine qQb ?_ | refine Ac (fun _ => ?_) (fun _ => ?_) | refine Bl fun _ => ?_)
 refine ⟨Or.inr rfl, _, rfl, ?_⟩
 show fz true (5 + 1) H2 (AV.slc _ _ _ _ _ _ _) = _
 have hl2 : (((m.take size).map (secB l)).map Hq).length = size := by simp; omega
 rw [Tf (Fv g1 hl2) (by omega), Cb, Ai (by omega)]
 unfold Vj Nw
 simp only [Ka]
 congr 1
 rw [Ha]
 exact Bk fun _ _ => rfl
theorem Biy {k : Nat} {l : List UInt8} {f : Bool} {recs : List Rec} {ws : List WS} {w0 : WS} {c0 c1 c2 c3 c4 c5 bv nv hd : AV} {T : Tmps} {H : Heap} (hk : 1000020 ≤ k) (hdv : Dev l) (hrl : recs.length < 1000) (hwl : ws.length = recs.length)
  (hfit : ∀ w ∈ ws, w.m.length = 512 ∧ ∀ a ∈ w.m, a < nb l) (hsz : ∀ r ∈ recs, r.size ≤ 512)
  (h0 : H 0 = ⟨1, false, .row 10 [.agg [c0, c1, c2, c3, c4, c5, .islc false false 8 (recs.map Rec.av), bv, .islc false false 1 ((w0 :: ws).map mIv), nv]]⟩)
  (h1 : H 2 = ⟨1, false, .row 3 [.agg [hd, .islc false true 0 [], .islc false true 0 []]]⟩) (h7 : (H 8).gen = 0) (h5 : (H 6).gen = 0)
  (hT : Has T [(0, .islc false f 1 (BL l)), (3, .ptr 0 1 1 10 0 0), (4, .ptr 1 1 1 3 0 0), (5, .ptr 2 1 1 3 0 0), (6, .int .i64 0)]) :
  W (Br (CF k) noX 0 k (.loop Bby) T H) (fun ex T' H' => ex = .exit 0 ∧ H' 1 = H 1 ∧ H' 2 = ⟨1, false, .row 3 [.agg [hd, snAv 8 (Se l (recs.zip ws)).length, snAv 6 (Sf l (recs.zip ws)).length]]⟩ ∧ SnAt 8 H' (Se l (recs.zip ws)) ∧ SnAt 6 H' (Sf l (recs.zip ws)) ∧ T' 4 = .ptr 1 1 1 3 0 0 ∧ T' 5 = .ptr 2 1 1 3 0 0) := by
 refine Fj recs.length (fun i T' H' => H' 0 = ⟨1, false, .row 10 [.agg [c0, c1, c2, c3, c4, c5, .islc false false 8 (recs.map Rec.av), bv, .islc false false 1 ((w0 :: ws).map mIv), nv]]⟩ ∧ H' 1 = H 1 ∧ H' 2 = ⟨1, false, .row 3 [.agg [hd, snAv 8 (Se l ((recs.zip ws).take i)).length, snAv 6 (Sf l ((recs.zip ws).take i)).length]]⟩ ∧ SnAt 8 H' (Se l ((recs.zip ws).take i)) ∧ SnAt 6 H' (Sf l ((recs.zip ws).take i)) ∧
   Has T' [(0, .islc false f 1 (BL l)), (3, .ptr 0 1 1 10 0 0), (4, .ptr 1 1 1 3 0 0), (5, .ptr 2 1 1 3 0 0), (6, .int .i64 (i : Nat))])
  ⟨h0, rfl, h1, by unfold SnAt; exact h7, by unfold SnAt; exact h5, hT⟩ (by omega) ?_
 rintro i T H hi ⟨gx, g0, g1, g7, g5, hT⟩
 have hrm : (recs.map Rec.av).length = recs.length := Ah _
 rw [hT.eq]
 simp only [over]
 unfold Bby
 by_cases hlt : i < recs.length
 ·have hzl : i < (recs.zip ws).length := by rw [Td]; omega
  have hwi : i < ws.length := by omega
  obtain ⟨w, hw⟩ : ∃ w, w = ws[i] := ⟨_, rfl⟩
  obtain ⟨⟨b1, b2, b3, b4, b5, b6, b7, b8⟩, hr⟩ : ∃ r, r = recs[i] := ⟨_, rfl⟩
  have hzi : (recs.zip ws)[i] = (⟨b1, b2, b3, b4, b5, b6, b7, b8⟩, w) := by rw [List.getElem_zip, ← hr, ← hw]
  have he2 : (recs.map Rec.av)[(i : Int).toNat]? = some (.agg [.int .i64 b1, .int .i64 b2, .int .i64 b3, .int .i64 b4, .int .i64 b5, .int .i64 b6, .int .i64 b7, .int .i64 b8]) := by
   rw [Bd, Bp, Aa hlt, ← hr]; rfl
  have he3 : ((w0 :: ws).map mIv)[((i : Int) + 1).toNat]? = some (.islc false false 1 (NL w.m)) := by
   rw [show ((i : Int) + 1).toNat = i + 1 by omega, Aw, List.getElem?_cons_succ, Bp, Aa hwi, ← hw]; rfl
  have hwf := hfit w (by rw [hw]; exact Bw hwi)
  have hb5 : b5 ≤ 512 := by have := hsz _ (Bw hlt); rw [← hr] at this; exact this
  have hse := Bgi k (by omega) f l hdv w.m hwf.2 (by rw [hwf.1]; omega) b5 (by rw [hwf.1]; exact hb5)
  have hsv : Ys l (⟨b1, b2, b3, b4, b5, b6, b7, b8⟩, w) = ⟨b2, b3, Nw l w.m b5, b7, b8⟩ := rfl
  have hea : (⟨b2, b3, Nw l w.m b5, b7, b8⟩ : SnapV).av = .agg [.int .i64 b2, .int .i64 b3, .islc false false 1 ((Nw l w.m b5).map Hq), .int .i64 b7, .int .i64 b8] := rfl
  unfold Vj at hse
  have htk : (recs.zip ws).take (i + 1) = (recs.zip ws).take i ++ [(⟨b1, b2, b3, b4, b5, b6, b7, b8⟩, w)] := by rw [Av hzl, hzi]
  have hS : Se l ((recs.zip ws).take (i + 1)) = Se l ((recs.zip ws).take i) ++ (if b6 = 1 then [] else [⟨b2, b3, Nw l w.m b5, b7, b8⟩]) := by
   unfold Se
   rw [htk, Gs, Bq]
   congr 1
   by_cases h : b6 = 1
   ·rw [if_pos h, Eh, if_neg (by show ¬ (!decide (b6 = 1)) = true; rw [As h]; decide)]; rfl
   ·rw [if_neg h, Eh, if_pos (by show (!decide (b6 = 1)) = true; rw [Bb h]; rfl)]; rfl
  have hO : Sf l ((recs.zip ws).take (i + 1)) = Sf l ((recs.zip ws).take i) ++ (if b6 = 1 then [⟨b2, b3, Nw l w.m b5, b7, b8⟩] else []) := by
   unfold Sf
   rw [htk, Gs, Bq]
   congr 1
   by_cases h : b6 = 1
   ·rw [if_pos h, Eh, if_pos (show Tg (⟨b1, b2, b3, b4, b5, b6, b7, b8⟩, w) = true from As h)]; rfl
   ·rw [if_neg h, Eh, if_neg (show ¬ Tg (⟨b1, b2, b3, b4, b5, b6, b7, b8⟩, w) = true from fun hh => h (Kq hh))]; rfl
  have hSl : (Se l ((recs.zip ws).take i)).length ≤ i := by
   unfold Se
   rw [Ah]
   exact Ic (Ej _ _) (by rw [Bc]; omega)
  have hOl : (Sf l ((recs.zip ws).take i)).length ≤ i := by
   unfold Sf
   rw [Ah]
   exact Ic (Ej _ _) (by rw [Bc]; omega)
  rw [hS, hO]
  generalize Se l ((recs.zip ws).take i) = S at *
  generalize Sf l ((recs.zip ws).take i) = O at *
  generalize Nw l w.m b5 = R at *
  obtain ⟨sn, hsn⟩ : ∃ n, n = S.length := ⟨_, rfl⟩
  obtain ⟨on, hon⟩ : ∃ n, n = O.length := ⟨_, rfl⟩
  rw [← hsn, ← hon] at g1
  unfold SnAt at g7 g5
  have hsm : (S.map SnapV.av).length = sn := by rw [Ah, hsn]
  have hom : (O.map SnapV.av).length = on := by rw [Ah, hon]
  by_cases hk1 : b6 = 1
  ·have hk1' : (b6 : Int) = 1 := by omega
   rw [if_pos hk1, if_pos hk1, Bv]
   by_cases ho0 : O = []
   ·subst ho0
    obtain rfl : on = 0 := hon
    rw [if_pos rfl] at g5
    have g1' : H 2 = ⟨1, false, .row 3 [.agg [hd, snAv 8 sn, .islc false true 0 []]]⟩ := g1
    repeat' (first
     | refine qS ?_ | refine Bh (n := recs.length) rfl hrm rfl rfl ?_ | refine Da rfl rfl (by omega) he2 rfl rfl ?_ | refine Da rfl rfl (by omega) he3 rfl rfl ?_
     | refine Ae hse ?_ | refine Iw ?_ (hl := by kernel_rfl)
     | refine Kz (cs := [.int .i64 b2, .int .i64 b3, .islc false false 1 (R.map Hq), .int .i64 b7, .int .i64 b8]) ?_ (hc := by kernel_rfl) | refine Be ?_ (hr := by exact g1')
     | refine Be ?_ (hr := by exact gx)
     | refine Tm (e := .agg [.int .i64 b2, .int .i64 b3, .islc false false 1 (R.map Hq), .int .i64 b7, .int .i64 b8]) rfl rfl rfl rfl rfl rfl (fun _ => ?_)
     | refine Co ?_ (hr := by exact g1') | refine qQba ?_ | refine Ac (fun _ => ?_) (fun _ => ?_) | refine Bl fun _ => ?_)
    refine ⟨hlt, gx, g0, ?_, ?_, ?_, rfl, rfl, rfl, rfl, by show AV.int _ _ = AV.int _ _; congr 1, trivial⟩
    ·show (⟨1, false, .row 3 [.agg [hd, snAv 8 sn, .slc 6 ((H 6).gen + 1) 1 5 0 1 none]]⟩ : Blk) = _
     rw [g5, hsn]; rfl
    ·unfold SnAt; exact g7
    ·unfold SnAt
     rw [if_neg (by simp)]
     show (⟨(H 6).gen + 1, false, _⟩ : Blk) = _
     rw [g5]; rfl
   ·rw [if_neg ho0] at g5
    have hon0 : on ≠ 0 := fun h => ho0 (Eg.1 (by omega))
    have hsa : snAv 6 on = .slc 6 1 on 5 0 on none := by unfold snAv; rw [if_neg hon0]
    rw [hsa] at g1
    repeat' (first
     | refine qS ?_ | refine Bh (n := recs.length) rfl hrm rfl rfl ?_ | refine Da rfl rfl (by omega) he2 rfl rfl ?_ | refine Da rfl rfl (by omega) he3 rfl rfl ?_
     | refine Ae hse ?_ | refine Iw ?_ (hl := by kernel_rfl)
     | refine Kz (cs := [.int .i64 b2, .int .i64 b3, .islc false false 1 (R.map Hq), .int .i64 b7, .int .i64 b8]) ?_ (hc := by kernel_rfl) | refine Be ?_ (hr := by exact g1)
     | refine Be ?_ (hr := by exact gx)
     | refine Lm (e := .agg [.int .i64 b2, .int .i64 b3, .islc false false 1 (R.map Hq), .int .i64 b7, .int .i64 b8]) rfl rfl rfl (by exact g5) hom rfl (by omega) rfl rfl (fun _ => ?_)
     | refine Co ?_ (hr := by exact g1) | refine qQba ?_ | refine Ac (fun _ => ?_) (fun _ => ?_) | refine Bl fun _ => ?_)
    refine ⟨hlt, gx, g0, ?_, ?_, ?_, rfl, rfl, rfl, rfl, by show AV.int _ _ = AV.int _ _; congr 1, trivial⟩
    ·have e : (O ++ [(⟨b2, b3, R, b7, b8⟩ : SnapV)]).length = on + 1 := by simp [hon]
     rw [e, ← hsn]; rfl
    ·unfold SnAt; exact g7
    ·unfold SnAt
     rw [if_neg (by simp), Bq]; rfl
  ·have hk1' : (b6 : Int) ≠ 1 := by omega
   rw [if_neg hk1, if_neg hk1, Bv]
   by_cases ho0 : S = []
   ·subst ho0
    obtain rfl : sn = 0 := hsn
    rw [if_pos rfl] at g7
    have g1' : H 2 = ⟨1, false, .row 3 [.agg [hd, .islc false true 0 [], snAv 6 on]]⟩ := g1
    repeat' (first
     | refine qS ?_ | refine Bh (n := recs.length) rfl hrm rfl rfl ?_ | refine Da rfl rfl (by omega) he2 rfl rfl ?_ | refine Da rfl rfl (by omega) he3 rfl rfl ?_
     | refine Ae hse ?_ | refine Iw ?_ (hl := by kernel_rfl)
     | refine Kz (cs := [.int .i64 b2, .int .i64 b3, .islc false false 1 (R.map Hq), .int .i64 b7, .int .i64 b8]) ?_ (hc := by kernel_rfl) | refine Be ?_ (hr := by exact g1')
     | refine Be ?_ (hr := by exact gx)
     | refine Tm (e := .agg [.int .i64 b2, .int .i64 b3, .islc false false 1 (R.map Hq), .int .i64 b7, .int .i64 b8]) rfl rfl rfl rfl rfl rfl (fun _ => ?_)
     | refine Co ?_ (hr := by exact g1') | refine qQba ?_ | refine Ac (fun _ => ?_) (fun _ => ?_) | refine Bl fun _ => ?_)
    refine ⟨hlt, gx, g0, ?_, ?_, ?_, rfl, rfl, rfl, rfl, by show AV.int _ _ = AV.int _ _; congr 1, trivial⟩
    ·show (⟨1, false, .row 3 [.agg [hd, .slc 8 ((H 8).gen + 1) 1 5 0 1 none, snAv 6 on]]⟩ : Blk) = _
     rw [g7, hon]; rfl
    ·unfold SnAt
     rw [if_neg (by simp)]
     show (⟨(H 8).gen + 1, false, _⟩ : Blk) = _
     rw [g7]; rfl
    ·unfold SnAt; exact g5
   ·rw [if_neg ho0] at g7
    have hsn0 : sn ≠ 0 := fun h => ho0 (Eg.1 (by omega))
    have hsa : snAv 8 sn = .slc 8 1 sn 5 0 sn none := by unfold snAv; rw [if_neg hsn0]
    rw [hsa] at g1
    repeat' (first
     | refine qS ?_ | refine Bh (n := recs.length) rfl hrm rfl rfl ?_ | refine Da rfl rfl (by omega) he2 rfl rfl ?_ | refine Da rfl rfl (by omega) he3 rfl rfl ?_
     | refine Ae hse ?_ | refine Iw ?_ (hl := by kernel_rfl)
     | refine Kz (cs := [.int .i64 b2, .int .i64 b3, .islc false false 1 (R.map Hq), .int .i64 b7, .int .i64 b8]) ?_ (hc := by kernel_rfl) | refine Be ?_ (hr := by exact g1)
     | refine Be ?_ (hr := by exact gx)
     | refine Lm (e := .agg [.int .i64 b2, .int .i64 b3, .islc false false 1 (R.map Hq), .int .i64 b7, .int .i64 b8]) rfl rfl rfl (by exact g7) hsm rfl (by omega) rfl rfl (fun _ => ?_)
     | refine Co ?_ (hr := by exact g1) | refine qQba ?_ | refine Ac (fun _ => ?_) (fun _ => ?_) | refine Bl fun _ => ?_)
    refine ⟨hlt, gx, g0, ?_, ?_, ?_, rfl, rfl, rfl, rfl, by show AV.int _ _ = AV.int _ _; congr 1, trivial⟩
    ·have e : (S ++ [(⟨b2, b3, R, b7, b8⟩ : SnapV)]).length = sn + 1 := by simp [hsn]
     rw [e, ← hon]; rfl
    ·unfold SnAt
     rw [if_neg (by simp), Bq]; rfl
    ·unfold SnAt; exact g5
 ·have hin : i = recs.length := by omega
  have htk : (recs.zip ws).take i = recs.zip ws := Ai (by rw [Td]; omega)
  rw [htk] at g1 g7 g5
  repeat' (first | refine qS ?_ | refine Bh (n := recs.length) rfl hrm rfl rfl ?_ | refine Be ?_ (hr := by exact gx) | refine qQba ?_ | refine Ac (fun _ => ?_) (fun _ => ?_) | refine Bl fun _ => ?_)
  exact ⟨rfl, g0, g1, g7, g5, rfl, rfl⟩
theorem Bki (k : Nat) (hk : 1000100 ≤ k) (f : Bool) (l : List UInt8) (hd : Dev l) (x : Img) (hx : x.fit l) : FnV (CF k) Bdn [.islc false f 1 (BL l), .agg x.rcs] (.agg (Gq l x).cs) := by
 have hm := Auk hx
 have hfew := hx.few
 have htl := hx.trees
 have hrok := hx.recs
 have hsz := hx.sup.2.2.1
 refine fnk (by omega) Bhs rfl ?_
 unfold ref10_View Gq ViewV.cs Img.rcs
 simp only
 cases hts : x.trees with
 | nil => rw [hts] at htl; simp at htl
 | cons w0 ws =>
  rw [hts] at hm htl
  have hw0 := hm w0 (by simp)
  have hse := Bgi (k - 1) (by omega) f l hd w0.m hw0.2 (by rw [hw0.1]; decide) x.sup.size (by rw [hw0.1]; exact hsz)
  unfold Vj at hse
  have he0 : ((w0 :: ws).map mIv)[(0 : Int).toNat]? = some (.islc false false 1 (NL w0.m)) := rfl
  generalize hR : Nw l w0.m x.sup.size = R at *
  repeat' (first
   | refine qS ?_ | refine Da rfl rfl (by decide) he0 rfl rfl ?_ | refine Ae hse ?_
   | refine Kz (cs := [.islc false false 1 (R.map Hq), .islc false true 0 [], .islc false true 0 []]) ?_ (hc := by kernel_rfl) | refine Iw ?_ (hl := by kernel_rfl) | refine qQb ?_
   | refine Ac (fun _ => ?_) (fun _ => ?_) | refine Bl fun _ => ?_)
  refine W.mono (Biy (k := k - 1) (l := l) (f := f) (recs := x.recs) (ws := ws) (w0 := w0) (c0 := .int .i64 x.sup.gen) (c1 := .int .i64 x.sup.blocks) (c2 := .int .i64 x.sup.root) (c3 := .int .i64 x.sup.size) (c4 := .int .i64 x.sup.first) (c5 := .int .i64 x.slot) (bv := .islc false false 1 (NL x.blocks)) (nv := .islc false false 1 ((w0 :: ws).map nIv)) (hd := .islc false false 1 (R.map Hq)) (by omega) hd (by omega) (by simpa using htl) (fun w hw => hm w (by simp [hw])) (fun r hr => (hrok r hr).2.2.2.1) ?_ ?_ ?_ ?_ ?_) ?_
  ·rfl
  ·rfl
  ·rfl
  ·rfl
  ·exact ⟨rfl, rfl, rfl, rfl, rfl, trivial⟩
  rintro ex T2 H2 ⟨rfl, g0, g1, g8, g6, h4, h5⟩
  rw [Has.eq (T := T2) (ps := [(4, _), (5, _)]) ⟨h4, h5, trivial⟩]
  simp only [over]
  show W _ _
  have g0' : H2 1 = ⟨1, false, .row 3 [.agg [.islc false true 0 [], .islc false true 0 [], .islc false true 0 []]]⟩ := g0.trans rfl
  repeat' (first | refine qS ?_ | refine Be ?_ (hr := by exact g1) | refine Co ?_ (hr := by exact g0') | refine qQb ?_ | refine Ac (fun _ => ?_) (fun _ => ?_) | refine Bl fun _ => ?_)
  refine ⟨Or.inr rfl, .agg [.islc false false 1 (R.map Hq), snAv 8 (Se l (x.recs.zip ws)).length, snAv 6 (Sf l (x.recs.zip ws)).length], rfl, ?_⟩
  show AV.agg [_, fz true 5 _ (snAv 8 _), fz true 5 _ (snAv 6 _)] = _
  have hup : ∀ (v : Blk) b (S : List SnapV), b ≠ 1 → SnAt b H2 S → SnAt b (H2.upd 1 v) S := by
   intro v b S hb0 hS
   unfold SnAt at hS ⊢
   rw [Heap.upd_eq, if_neg hb0]; exact hS
  rw [Aup (hup _ 8 _ (by decide) g8) 1, Aup (hup _ 6 _ (by decide) g6) 1]
  unfold Vj Se Sf
  simp only [Mn, fJ, hR]
  rfl
theorem Biu (k : Nat) (hk : 1000400 ≤ k) (f : Bool) (l : List UInt8) (hl : l.length < 1000000) : FnV (CF k) Bdj [.islc false f 1 (BL l)] (Ajv l (pB l)) := by
 have hop := Bmg (k - 1) (by omega) f l hl
 refine fnk (by omega) Bgs rfl ?_
 unfold Bcu
 cases h : pB l with
 | error p =>
  obtain ⟨a, e⟩ := p
  have he := Nb h
  rw [h] at hop
  unfold Bgy Azc at hop
  unfold Ajv
  simp only at hop ⊢
  have he0 : (e : Int) ≠ 0 := by omega
  repeat' (first | refine Al (hop) (fun _ => ?_) (fun _ => ?_) | refine Ae (hop) ?_ | refine qQb ?_ | refine Ac (fun _ => ?_) (fun _ => ?_))
  exact ⟨Or.inr rfl, .tup [.agg [.islc false true 0 [], .islc false true 0 [], .islc false true 0 []], .int .i64 e], rfl, rfl⟩
 | ok x =>
  rw [h] at hop
  obtain ⟨hd, hx⟩ := Oa hl h
  have hv := Bki (k - 1) (by omega) f l hd x hx
  obtain ⟨f2, s2, h2, _⟩ := Wo (Gq l x).snaps
  obtain ⟨f3, s3, h3, _⟩ := Wo (Gq l x).opens
  unfold Bgy at hop
  unfold Ajv
  simp only at hop ⊢
  unfold ViewV.cs Vj at hv ⊢
  rw [h2, h3] at hv ⊢
  generalize (Gq l x).head.map Hq = V1 at *
  generalize (Gq l x).snaps.map SnapV.av = V2 at *
  generalize (Gq l x).opens.map SnapV.av = V3 at *
  have hrc : x.rcs = [.int .i64 x.sup.gen, .int .i64 x.sup.blocks, .int .i64 x.sup.root, .int .i64 x.sup.size, .int .i64 x.sup.first, .int .i64 x.slot, .islc false false 8 (x.recs.map Rec.av), .islc false false 1 (NL x.blocks), .islc false false 1 (x.trees.map mIv), .islc false false 1 (x.trees.map nIv)] := rfl
  rw [hrc] at hop hv
  repeat' (first | refine qS ?_ | refine Ae hv ?_ | refine Al (hop) (fun _ => ?_) (fun _ => ?_) | refine Ae (hop) ?_ | refine qQb ?_ | refine Ac (fun _ => ?_) (fun _ => ?_))
  exact ⟨Or.inr rfl, .tup [.agg [.islc false false 1 V1, .islc false f2 s2 V2, .islc false f3 s3 V3], .int .i64 0], rfl, rfl⟩
def LastAt (ios : List IoV) (n : Nat) (z : Int) : Prop := z = -1 ∧ Bap (ios.take n) = 0 ∨ ∃ j : Nat, z = j ∧ Bap (ios.take n) = j ∧ j < n ∧ ∀ h : j < ios.length, ios[j].kind = 2
theorem LastAt.step {ios : List IoV} {n : Nat} {z : Int} (h : LastAt ios n z) (hn : n < ios.length) (hk : ios[n].kind ≠ 2) : LastAt ios (n + 1) z := by
 have e : Bap (ios.take (n + 1)) = Bap (ios.take n) := by
  unfold Bap
  rw [Ays hn, if_neg hk, Bv]
 unfold LastAt at h ⊢
 rw [e]
 rcases h with h | ⟨j, h1, h2, h3, h4⟩
 ·exact .inl h
 ·exact .inr ⟨j, h1, h2, by omega, h4⟩
theorem LastAt.new {ios : List IoV} {n : Nat} (hn : n < ios.length) (hk : ios[n].kind = 2) : LastAt ios (n + 1) n := by
 refine .inr ⟨n, rfl, ?_, by omega, fun _ => hk⟩
 unfold Bap
 rw [Ays hn, if_pos hk]
 simp [Af]
theorem LastAt.lt {ios : List IoV} {n : Nat} {z : Int} (h : LastAt ios n z) {i : Nat} (hi : i < ios.length) (hk : ios[i].kind = 1) : i < Bap (ios.take n) ↔ ¬ z < (i : Int) := by
 rcases h with ⟨h1, h2⟩ | ⟨j, h1, h2, h3, h4⟩
 ·rw [h2, h1]; omega
 ·rw [h2, h1]
  have : i ≠ j := fun e => by subst e; have := h4 hi; omega
  omega
theorem Bje {k : Nat} {l : List UInt8} {ios : List IoV} {cut : Nat} {v : Nat} {keep : List Bool} {T : Tmps} {H : Heap} (hk : 1000000 ≤ k) (hil : ios.length < 100000) (hc : cut ≤ ios.length)
  (h0 : H 1 = ⟨1, false, .row 1 (BL l)⟩) (hT : Has T [(1, .islc false false 3 (ios.map IoV.av)), (2, .int .i64 (cut : Nat)), (3, .islc false false 1 (keep.map AV.bool)), (9, .slc 1 1 v 1 0 v none), (10, .int .i64 (-1)), (11, .int .i64 0)]) :
  W (Br (CF k) noX 0 k (.loop Bbl) T H) (fun ex T' H' => ex = .exit 0 ∧ H' 1 = ⟨1, false, .row 1 (BL l)⟩ ∧ ∃ z : Int, LastAt ios cut z ∧ Has T' [(1, .islc false false 3 (ios.map IoV.av)), (2, .int .i64 (cut : Nat)), (3, .islc false false 1 (keep.map AV.bool)), (9, .slc 1 1 v 1 0 v none), (10, .int .i64 z)]) := by
 refine Fj cut (fun i T' H' => H' 1 = ⟨1, false, .row 1 (BL l)⟩ ∧ ∃ z : Int, LastAt ios i z ∧ Has T' [(1, .islc false false 3 (ios.map IoV.av)), (2, .int .i64 (cut : Nat)), (3, .islc false false 1 (keep.map AV.bool)), (9, .slc 1 1 v 1 0 v none), (10, .int .i64 z), (11, .int .i64 (i : Nat))]) ⟨h0, -1, .inl ⟨rfl, rfl⟩, hT⟩ (by omega) ?_
 rintro i T H hi ⟨g0, z, hz, hT⟩
 rw [hT.eq]
 simp only [over]
 unfold Bbl
 by_cases hlt : i < cut
 ·have hlt2 : i < ios.length := by omega
  have hs := hz.step hlt2
  have hnw := LastAt.new hlt2
  obtain ⟨x, hx⟩ : ∃ x, x = ios[i] := ⟨_, rfl⟩
  have he1 : (ios.map IoV.av)[(i : Int).toNat]? = some x.av := by
   rw [Bd, Bp, Aa hlt2, ← hx]; rfl
  rw [← hx] at hs hnw
  clear hx
  obtain ⟨kd, a, d, t, f, s⟩ := x
  have he2 : (ios.map IoV.av)[(i : Int).toNat]? = some (.agg [.int .i64 kd, .int .i64 a, .islc t f s (BL d)]) := he1
  clear he1
  simp only at hs hnw
  by_cases h2 : kd = 2
  ·have h2' : (kd : Int) = 2 := by omega
   repeat' (first | refine qS ?_ | refine Da rfl rfl (by omega) he2 rfl rfl ?_ | refine qQba ?_ | refine Ac (fun _ => ?_) (fun _ => ?_))
   exact ⟨hlt, g0, (i : Int), hnw h2, rfl, rfl, rfl, rfl, rfl, by show AV.int _ _ = AV.int _ _; congr 1, trivial⟩
  ·have h2' : (kd : Int) ≠ 2 := by omega
   repeat' (first | refine qS ?_ | refine Da rfl rfl (by omega) he2 rfl rfl ?_ | refine qQba ?_ | refine Ac (fun _ => ?_) (fun _ => ?_))
   exact ⟨hlt, g0, z, hs h2, rfl, rfl, rfl, rfl, rfl, by show AV.int _ _ = AV.int _ _; congr 1, trivial⟩
 ·have hin : i = cut := by omega
  subst hin
  repeat' (first | refine qQba ?_ | refine Ac (fun _ => ?_) (fun _ => ?_))
  exact ⟨rfl, g0, z, hz, rfl, rfl, rfl, rfl, rfl, trivial⟩
theorem Biq {k : Nat} {l : List UInt8} {ios : List IoV} {keep : List Bool} {cut v : Nat} {z : Int} {T : Tmps} {H : Heap} (hk : 1000000 ≤ k) (hv : l.length = v) (hl : v < 1000000) (hil : ios.length < 100000) (hc : cut ≤ ios.length) (hok : ∀ x ∈ ios, Oz (nb l) x ∧ (x.s = 1 ∨ x.data = []))
  (hkl : keep.length < 100000) (hz : LastAt ios cut z)
  (h0 : H 1 = ⟨1, false, .row 1 (BL l)⟩)
  (hT : Has T [(1, .islc false false 3 (ios.map IoV.av)), (2, .int .i64 (cut : Nat)), (3, .islc false false 1 (keep.map AV.bool)), (9, .slc 1 1 v 1 0 v none), (10, .int .i64 z), (12, .int .i64 0), (13, .int .i64 0)]) :
  W (Br (CF k) noX 0 k (.loop Bbm) T H) (fun ex T' H' => ex = .exit 2 ∧ H' 1 = ⟨1, false, .row 1 (BL (pE l ios cut keep))⟩ ∧ T' 9 = .slc 1 1 v 1 0 v none) := by
 have hlst : ∀ i : Nat, ∀ h : i < ios.length, ios[i].kind = 1 → (i < Bap (ios.take cut) ↔ ¬ z < (i : Int)) := fun i h hk => hz.lt h hk
 generalize hG : pE l ios cut keep = tot
 unfold pE at hG
 generalize Bap (ios.take cut) = safe at *
 refine Fj cut (fun i T' H' => ∃ m o, tot = Ayb safe keep ((ios.take cut).drop i) i o m ∧ m.length = v ∧ o ≤ i ∧ H' 1 = ⟨1, false, .row 1 (BL m)⟩ ∧
   Has T' [(1, .islc false false 3 (ios.map IoV.av)), (2, .int .i64 (cut : Nat)), (3, .islc false false 1 (keep.map AV.bool)), (9, .slc 1 1 v 1 0 v none), (10, .int .i64 z), (12, .int .i64 (o : Nat)), (13, .int .i64 (i : Nat))]) ⟨l, 0, hG.symm, hv, Au _, h0, hT⟩ (by omega) ?_
 rintro i T H hi ⟨m, o, hgo, hm, hoi, g0, hT⟩
 rw [hT.eq]
 simp only [over]
 unfold Bbm
 have htk : (ios.take cut).length = cut := by rw [Bc]; omega
 by_cases hlt : i < cut
 ·have hlt2 : i < ios.length := by omega
  have hlt3 : i < (ios.take cut).length := by omega
  rw [Cm hlt3, List.getElem_take] at hgo
  obtain ⟨x, hx⟩ : ∃ x, x = ios[i] := ⟨_, rfl⟩
  have hxo := hok ios[i] (Bw hlt2)
  have hls := hlst i hlt2
  have he1 : (ios.map IoV.av)[(i : Int).toNat]? = some x.av := by
   rw [Bd, Bp, Aa hlt2, ← hx]; rfl
  rw [← hx] at hxo hgo hls
  clear hx
  obtain ⟨kd, a, d, t, f, s⟩ := x
  have he2 : (ios.map IoV.av)[(i : Int).toNat]? = some (.agg [.int .i64 kd, .int .i64 a, .islc t f s (BL d)]) := he1
  clear he1
  obtain ⟨hr, hsd⟩ := hxo
  unfold Ayb at hgo
  unfold Oz at hr
  simp only at hsd hgo hr hls
  have hkm : (keep.map AV.bool).length = keep.length := Ah _
  by_cases hkd : kd = 1
  ·have hkd' : (kd : Int) = 1 := by omega
   rw [if_neg (fun h => h hkd)] at hgo
   have hls := hls hkd
   have hra : a < nb l ∧ d.length = 64 := by omega
   have hle : 64 * (a + 1) ≤ v := by have := hra.1; unfold nb at this; omega
   have hsd1 : s = 1 := hsd.resolve_right (fun h => by have := hra.2; rw [h] at this; simp at this)
   subst hsd1
   have hwl : (wr m a d).length = v := by rw [yT (by rw [hm]; exact hle) hra.2]; exact hm
   have hbm : (BL m).length = v := by simpa using hm
   have hbd : (BL d).length = 64 := by simpa using hra.2
   have hnew : (⟨1, false, .row 1 ((BL m).take (0 + 64 * a) ++ BL d ++ (BL m).drop (0 + 64 * a + (BL d).length))⟩ : Blk) = ⟨1, false, .row 1 (BL (wr m a d))⟩ := by rw [Blu hra.2]
   have e1 : ((a : Int) * 64) = ((64 * a : Nat) : Int) := by omega
   by_cases hsi : i < safe
   ·have hsi' : ¬ z < (i : Int) := hls.1 hsi
    rw [if_pos hsi] at hgo
    repeat' (first
     | refine qS ?_ | refine qN ?_ | refine Da rfl rfl (by omega) he2 rfl rfl ?_ | (rw [e1])
     | refine Vs (a := 64 * a) (b := v) rfl (by exact g0) hbm (Ev rfl) rfl (by omega) (by show _ ≤ v - 0; omega) (by show 0 + (v - 0) ≤ v; omega) rfl rfl ?_
     | refine Aph (m := BL d) (es := BL m) rfl rfl (.inl rfl) (Lz d) (by exact g0) hbm (by omega) (by omega) rfl (by kernel_rfl) ?_ | refine qQba ?_
     | refine Ac (fun _ => ?_) (fun _ => ?_))
    exact ⟨hlt, wr m a d, o, hgo, hwl, by omega, hnew, rfl, rfl, rfl, rfl, rfl, rfl, by show AV.int _ _ = AV.int _ _; congr 1, trivial⟩
   ·have hsi' : z < (i : Int) := Dm.1 fun h => hsi (hls.2 h)
    rw [if_neg hsi] at hgo
    by_cases hok2 : o < keep.length
    ·have hok2' : ¬ ((o : Int) + 1 > (keep.length : Int)) := by omega
     have he3 : (keep.map AV.bool)[((o : Int) + 1 - 1).toNat]? = some (.bool keep[o]) := by
      rw [show ((o : Int) + 1 - 1).toNat = o by omega, Bp, Aa hok2]; rfl
     have hgd : keep.getD o false = keep[o] := by simp [hok2]
     rw [hgd] at hgo
     generalize keep[o] = kb at *
     cases kb with
     | true =>
      rw [if_pos rfl] at hgo
      repeat' (first
       | refine qS ?_ | refine qN ?_ | refine Da rfl rfl (by omega) he2 rfl rfl ?_ | refine Da rfl rfl (by omega) he3 rfl rfl ?_
       | refine Bh (n := keep.length) rfl hkm rfl rfl ?_ | (rw [e1])
       | refine Vs (a := 64 * a) (b := v) rfl (by exact g0) hbm (Ev rfl) rfl (by omega) (by show _ ≤ v - 0; omega) (by show 0 + (v - 0) ≤ v; omega) rfl rfl ?_
       | refine Aph (m := BL d) (es := BL m) rfl rfl (.inl rfl) (Lz d) (by exact g0) hbm (by omega) (by omega) rfl (by kernel_rfl) ?_ | refine qQba ?_
       | refine Ac (fun _ => ?_) (fun _ => ?_))
      exact ⟨hlt, wr m a d, o + 1, hgo, hwl, by omega, hnew, rfl, rfl, rfl, rfl, rfl, by show AV.int _ _ = AV.int _ _; congr 1, by show AV.int _ _ = AV.int _ _; congr 1, trivial⟩
     | false =>
      rw [if_neg (by decide)] at hgo
      repeat' (first
       | refine qS ?_ | refine qN ?_ | refine Da rfl rfl (by omega) he2 rfl rfl ?_ | refine Da rfl rfl (by omega) he3 rfl rfl ?_
       | refine Bh (n := keep.length) rfl hkm rfl rfl ?_ | refine qQba ?_ | refine Ac (fun _ => ?_) (fun _ => ?_))
      exact ⟨hlt, m, o + 1, hgo, hm, by omega, g0, rfl, rfl, rfl, rfl, rfl, by show AV.int _ _ = AV.int _ _; congr 1, by show AV.int _ _ = AV.int _ _; congr 1, trivial⟩
    ·have hok2' : (o : Int) + 1 > (keep.length : Int) := by omega
     have hgd : keep.getD o false = false := by simp [Af, Dt (by omega : keep.length ≤ o)]
     rw [hgd, if_neg (by decide)] at hgo
     repeat' (first | refine qS ?_ | refine qN ?_ | refine Da rfl rfl (by omega) he2 rfl rfl ?_ | refine Bh (n := keep.length) rfl hkm rfl rfl ?_ | refine qQba ?_ | refine Ac (fun _ => ?_) (fun _ => ?_))
     exact ⟨hlt, m, o + 1, hgo, hm, by omega, g0, rfl, rfl, rfl, rfl, rfl, by show AV.int _ _ = AV.int _ _; congr 1, by show AV.int _ _ = AV.int _ _; congr 1, trivial⟩
  ·have hkd' : (kd : Int) ≠ 1 := by omega
   rw [if_pos hkd] at hgo
   repeat' (first | refine qS ?_ | refine qN ?_ | refine Da rfl rfl (by omega) he2 rfl rfl ?_ | refine qQba ?_ | refine Ac (fun _ => ?_) (fun _ => ?_))
   exact ⟨hlt, m, o, hgo, hm, by omega, g0, rfl, rfl, rfl, rfl, rfl, rfl, by show AV.int _ _ = AV.int _ _; congr 1, trivial⟩
 ·have hin : i = cut := by omega
  subst hin
  rw [Ce (by omega)] at hgo
  unfold Ayb at hgo
  repeat' (first | refine qS ?_ | refine qN ?_ | refine qQba ?_ | refine Ac (fun _ => ?_) (fun _ => ?_))
  exact ⟨rfl, by rw [hgo]; exact g0, rfl⟩
theorem Bli (k : Nat) (hk : 1000010 ≤ k) (l : List UInt8) (hl : l.length < 1000000) (ios : List IoV) (hil : ios.length < 100000) (hok : ∀ x ∈ ios, Oz (nb l) x ∧ (x.s = 1 ∨ x.data = [])) (cut : Nat) (hc : cut ≤ ios.length) (keep : List Bool) (hkl : keep.length < 100000)
  (hlen : (pE l ios cut keep).length = l.length) :
  FnV (CF k) Bcb [.islc false false 1 (BL l), .islc false false 3 (ios.map IoV.av), .int .i64 (cut : Nat), .islc false false 1 (keep.map AV.bool)] (.islc false false 1 (BL (pE l ios cut keep))) := by
 refine fnk (by omega) Bgf rfl ?_
 unfold ref01_Crash
 repeat' (first | refine qS ?_ | refine qN ?_ | refine Avc (l := []) rfl rfl (.inl rfl) rfl rfl (by omega) rfl rfl (fun _ => ?_) | refine qQb ?_ | refine Ac (fun _ => ?_) (fun _ => ?_) | refine Bl fun _ => ?_)
 refine W.mono (Bje (k := k - 1) (l := l) (ios := ios) (cut := cut) (keep := keep) (v := 0 + l.length) (by omega) hil hc rfl ⟨rfl, rfl, rfl, rfl, rfl, rfl, trivial⟩) ?_
 rintro ex T1 H1 ⟨rfl, f1, z, hz, hT1⟩
 rw [hT1.eq]
 simp only [over]
 show W _ _
 repeat' (first | refine qS ?_ | refine qN ?_ | refine qQb ?_ | refine Ac (fun _ => ?_) (fun _ => ?_) | refine Bl fun _ => ?_)
 refine W.mono (Biq (k := k - 1) (l := l) (ios := ios) (cut := cut) (keep := keep) (z := z) (v := 0 + l.length) (by omega) (by omega) (by omega) hil hc hok hkl hz f1 ⟨rfl, rfl, rfl, rfl, rfl, rfl, rfl, trivial⟩) ?_
 rintro ex T2 H2 ⟨rfl, g1, h3⟩
 rw [Has.eq (T := T2) (ps := [(9, _)]) ⟨h3, trivial⟩]
 simp only [over]
 show W _ _
 repeat' (first | refine qS ?_ | refine qN ?_ | refine qQb ?_ | refine Ac (fun _ => ?_) (fun _ => ?_) | refine Bl fun _ => ?_)
 refine ⟨Or.inr rfl, _, rfl, ?_⟩
 exact Afm g1 (by omega)
end Go.Proofs.YtkaiiopoilpjeaaGreat
