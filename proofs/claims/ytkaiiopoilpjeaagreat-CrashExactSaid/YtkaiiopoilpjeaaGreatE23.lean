import Derived.Test.YtkaiiopoilpjeaaGreatMK5
import Derived.Test.YtkaiiopoilpjeaaGreatME2
set_option linter.unusedSimpArgs false
set_option linter.unusedVariables false
set_option maxRecDepth 10000
set_option maxHeartbeats 16000000
namespace Go.Proofs.YtkaiiopoilpjeaaGreat
open Go.AI
def oddG : List Nat → Nat → List Nat
 | [], _ => []
 | a :: r, i => if i % 2 = 1 then (a + 1) :: oddG r (i + 1) else oddG r (i + 1)
theorem Bgo (a : Nat) : ∀ (F : List Nat) (i : Nat), oddG (F ++ [a]) i = oddG F i ++ (if (i + F.length) % 2 = 1 then [a + 1] else [])
 | [], i => by
  simp only [Dd, oddG, De, Ey]
 | b :: F, i => by
  have h := Bgo a F (i + 1)
  rw [show i + 1 + F.length = i + (b :: F).length by simp only [Ao]; omega] at h
  simp only [Jt, oddG]
  rw [h]
  split
  ·rw [Jt]
  ·rfl
theorem Bji {n : Nat} : ∀ (F : List Nat) (i : Nat), (∀ a ∈ F, a < n) → ∀ b ∈ oddG F i, b ≤ n
 | [], _, _, b, h => by cases h
 | a :: F, i, hF, b, h => by
  have hr := Bji F (i + 1) (fun x hx => hF x (Bu _ hx)) b
  have ha := hF a (Ct ..)
  unfold oddG at h
  split at h
  ·rcases Ap.1 h with h | h
   ·omega
   ·exact hr h
  ·exact hr h
theorem Bds : ∀ (F : List Nat) (i : Nat), (oddG F i).length ≤ F.length
 | [], _ => Au _
 | a :: F, i => by
  have h := Bds F (i + 1)
  unfold oddG
  split
  ·simp only [Ao]; omega
  ·simp only [Ao]; omega
def Bas (l : List UInt8) (ios : List IoV) : List Nat → List ViewV → Except Nat (List ViewV)
 | [], acc => .ok acc
 | a :: r, acc => match pB (Bt l (ios.take a)) with
  | .error (_, e) => .error e
  | .ok x => Bas l ios r (acc ++ [Gq (Bt l (ios.take a)) x])
theorem Baf (l : List UInt8) (ios : List IoV) : ∀ (F : List Nat) (i frm : Nat) (acc : List ViewV), F.Pairwise (· < ·) → (∀ a ∈ F, frm ≤ a) → Ayq (Bt l (ios.take frm)) ios F i frm acc = Bas l ios (oddG F i) acc
 | [], _, _, _, _, _ => rfl
 | a :: F, i, frm, acc, hp, hf => by
  rw [List.pairwise_cons] at hp
  have hfa := hf a (Ct ..)
  unfold Ayq oddG
  by_cases ho : i % 2 = 1
  ·rw [if_neg (fun h => h ho), if_pos ho]
   have e : Bt (Bt l (ios.take frm)) ((ios.drop frm).take (a + 1 - frm)) = Bt l (ios.take (a + 1)) := by
    rw [← dB, ← lN, show frm + (a + 1 - frm) = a + 1 by omega]
   rw [e]
   unfold Bas
   cases pB (Bt l (ios.take (a + 1))) with
   | error p => rfl
   | ok x => exact Baf l ios F (i + 1) (a + 1) _ hp.2 fun b hb => hp.1 b hb
  ·rw [if_pos ho, if_neg ho]
   exact Baf l ios F (i + 1) frm acc hp.2 fun b hb => hf b (Bu _ hb)
def Azz (l : List UInt8) (ios : List IoV) : Except Nat (List ViewV) := match pB l with
 | .error (_, e) => .error e
 | .ok x => Bas l ios (oddG (Zs ios) 0) [Gq l x]
theorem Bho {l : List UInt8} {ios : List IoV} (h : Lc l ios = 0) : Bal l ios = Azz l ios := by
 unfold Bal Azz
 rw [if_neg (fun hh => hh h)]
 cases pB l with
 | error p => rfl
 | ok x => exact Baf l ios (Zs ios) 0 0 [Gq l x] (Azh ios 0).2 fun a _ => Ep a
def Bfn : AV := .agg [.islc false true 0 [], .islc false true 0 [], .islc false true 0 []]
theorem Bgk {l : List UInt8} {ios : List IoV} {e : Nat} : ∀ (A : List Nat) (acc : List ViewV), Bas l ios A acc = .error e → e ≠ 0
 | [], _, h => by cases h
 | a :: A, acc, h => by
  unfold Bas at h
  cases hq : pB (Bt l (ios.take a)) with
  | error p =>
   obtain ⟨b, e'⟩ := p
   rw [hq] at h
   have := Nb hq
   cases h
   omega
  | ok x => rw [hq] at h; exact Bgk A _ h
theorem Bie {l : List UInt8} {ios : List IoV} (hd : ∀ a, (Bt l (ios.take a)).length < 1000000) : ∀ (A : List Nat) (acc vs : List ViewV), Bas l ios A acc = .ok vs → (∀ v ∈ acc, v.ok) → (∀ v ∈ vs, v.ok) ∧ vs.length = acc.length + A.length
 | [], acc, vs, h, ha => by
  cases h
  exact ⟨ha, rfl⟩
 | a :: A, acc, vs, h, ha => by
  unfold Bas at h
  cases hq : pB (Bt l (ios.take a)) with
  | error p => rw [hq] at h; cases h
  | ok x =>
   rw [hq] at h
   obtain ⟨d1, d2⟩ := Oa (hd a) hq
   obtain ⟨r1, r2⟩ := Bie hd A _ vs h (fun v hv => by
    rcases Bi.1 hv with hv | hv
    ·exact ha v hv
    ·rw [Bg.1 hv]; exact Aok d1 d2)
   refine ⟨r1, ?_⟩
   rw [r2, An, Ao]
   simp only [Ao, De]; omega
attribute [local irreducible] aops Br Cp Dp aop W WO
theorem Bjj (k : Nat) (hk : 1000040 ≤ k) : FnV (CF k) mQ [Bfn, Bfn] (.bool true) := by
 have h1 := lR (k - 1) (by omega) false true false true 0 0 [] [] (by decide) (by decide) (.inr rfl) (.inr rfl) (by simp) (by simp)
 have h2 := iQ (k - 1) (by omega) false true false true 0 0 [] [] (by decide) (by decide) (.inr rfl) (.inr rfl) (by simp) (by simp)
 have h1 : FnV (CF (k - 1)) mL [.islc false true 0 [], .islc false true 0 []] (.bool true) := h1
 have h2 : FnV (CF (k - 1)) iI [.islc false true 0 [], .islc false true 0 []] (.bool true) := h2
 refine fnk (by omega) Abu rfl ?_
 unfold lD Bfn
 repeat' (first | refine qS ?_ | refine qN ?_ | refine Ae h1 ?_ | refine Ae h2 ?_ | refine qQb ?_ | fail)
 exact ⟨Or.inr rfl, _, rfl, rfl⟩
theorem Bdw (k : Nat) (hk : 1000040 ≤ k) {l : List UInt8} (hl : l.length < 1000000) : ∃ (f1 f2 f3 : Bool) (s1 s2 s3 : Nat) (e1 e2 e3 : List AV) (e : Nat), Ajv l (pB l) = .tup [.agg [.islc false f1 s1 e1, .islc false f2 s2 e2, .islc false f3 s3 e3], .int .i64 e] ∧
  FnV (CF k) mQ [.agg [.islc false f1 s1 e1, .islc false f2 s2 e2, .islc false f3 s3 e3], .agg [.islc false f1 s1 e1, .islc false f2 s2 e2, .islc false f3 s3 e3]] (.bool true) ∧
  ((∃ a, e ≠ 0 ∧ pB l = .error (a, e)) ∨ ∃ x, e = 0 ∧ pB l = .ok x ∧ (Gq l x).av = .agg [.islc false f1 s1 e1, .islc false f2 s2 e2, .islc false f3 s3 e3] ∧ (Gq l x).ok) := by
 cases h : pB l with
 | error p =>
  obtain ⟨a, e⟩ := p
  have he := Nb h
  have hz := Bjj k hk
  exact ⟨true, true, true, 0, 0, 0, [], [], [], e, rfl, hz, .inl ⟨a, by omega, rfl⟩⟩
 | ok x =>
  obtain ⟨d1, d2⟩ := Oa hl h
  have hok := Aok d1 d2
  have hv := Avs k hk (Gq l x) (Gq l x) hok hok
  rw [As rfl] at hv
  obtain ⟨f2, s2, h2, _⟩ := Wo (Gq l x).snaps
  obtain ⟨f3, s3, h3, _⟩ := Wo (Gq l x).opens
  have ha : (Gq l x).av = .agg [.islc false false 1 ((Gq l x).head.map Hq), .islc false f2 s2 ((Gq l x).snaps.map SnapV.av), .islc false f3 s3 ((Gq l x).opens.map SnapV.av)] := by
   unfold ViewV.av ViewV.cs Vj
   rw [h2, h3]
  rw [ha] at hv
  exact ⟨_, _, _, _, _, _, _, _, _, 0, by unfold Ajv; exact Bo (fun z => AV.tup [z, .int .i64 0]) ha, hv, .inr ⟨x, rfl, rfl, ha, hok⟩⟩
theorem Bku {k : Nat} {zs : List IoZ} {v0 v2 v3 v11 v12 v13 v14 v15 : AV} {T : Tmps} {H : Heap} (hk : 1000000 ≤ k) (hzl : zs.length ≤ 60) (h1 : H 1 = ⟨1, false, .row 1 []⟩)
  (hT : Has T [(0, v0), (1, .islc false false 3 (zs.map IoZ.av)), (2, v2), (3, v3), (11, v11), (12, v12), (13, v13), (14, v14), (15, v15), (16, .int .i64 0), (17, .slc 1 1 0 1 0 0 none), (18, .int .i64 0)]) :
  W (Br (CF k) noX 0 k (.loop Aze) T H) (fun ex T' H' => ex = .exit 0 ∧ H' 0 = H 0 ∧ H' 1 = ⟨1, false, .row 1 (NL (oddG (Zs (zs.map toIo)) 0))⟩ ∧
   Has T' [(0, v0), (1, .islc false false 3 (zs.map IoZ.av)), (2, v2), (3, v3), (11, v11), (12, v12), (13, v13), (14, v14), (15, v15), (16, .int .i64 (Zs (zs.map toIo)).length), (17, .slc 1 1 (oddG (Zs (zs.map toIo)) 0).length 1 0 (oddG (Zs (zs.map toIo)) 0).length none)]) := by
 refine Fj zs.length (fun i T' H' => H' 0 = H 0 ∧ H' 1 = ⟨1, false, .row 1 (NL (oddG (Zs ((zs.map toIo).take i)) 0))⟩ ∧
   Has T' [(0, v0), (1, .islc false false 3 (zs.map IoZ.av)), (2, v2), (3, v3), (11, v11), (12, v12), (13, v13), (14, v14), (15, v15), (16, .int .i64 (Zs ((zs.map toIo).take i)).length), (17, .slc 1 1 (oddG (Zs ((zs.map toIo).take i)) 0).length 1 0 (oddG (Zs ((zs.map toIo).take i)) 0).length none), (18, .int .i64 (i : Nat))]) ⟨rfl, h1, hT⟩ (by omega) ?_
 rintro i T H hi ⟨g0, g1, hT⟩
 rw [hT.eq]
 simp only [over]
 unfold Aze
 have hml : (zs.map toIo).length = zs.length := Ah _
 have hzm : (zs.map IoZ.av).length = zs.length := Ah _
 by_cases hlt : i < zs.length
 ·have hst := Ays (l := zs.map toIo) (i := i) (by omega)
  rw [Li] at hst
  obtain ⟨x, hx⟩ : ∃ x, x = zs[i] := ⟨_, rfl⟩
  rw [← hx] at hst
  have h22 := Bhx x
  have he1 : (zs.map IoZ.av)[(i : Int).toNat]? = some x.av := by
   rw [Bd, Bp, Aa hlt, ← hx]; rfl
  rw [hst]
  have hfl : (Zs ((zs.map toIo).take i)).length ≤ i := Ic (rA _) (by rw [Bc]; omega)
  generalize Zs ((zs.map toIo).take i) = F at *
  have hol := Bds F 0
  have hon := Bgo i F 0
  clear hx hst
  obtain ⟨kd, a, d⟩ := x
  have he2 : (zs.map IoZ.av)[(i : Int).toNat]? = some (.agg [.int .i64 kd, .int .i64 a, .islc false false 1 (BL d)]) := he1
  clear he1
  simp only at h22
  by_cases h2' : kd = 2
  ·rw [if_pos (h22.2 h2')]
   subst h2'
   rw [hon]
   generalize oddG F 0 = O at *
   have hfn : (NL O).length = O.length := Bm O
   have hFl : ((F ++ [i]).length : Nat) = F.length + 1 := by simp
   rw [hFl]
   by_cases hp : (0 + F.length) % 2 = 1
   ·rw [if_pos hp]
    have hp' : ((F.length : Int) + 1) % 2 = 0 := by omega
    have e1 : (i : Int) + 1 = ((i + 1 : Nat) : Int) := by omega
    repeat' (first
     | refine qS ?_ | refine Bh (n := zs.length) rfl hzm rfl rfl ?_ | refine Da rfl rfl (by omega) he2 rfl rfl ?_ | (rw [e1])
     | refine Bhm rfl rfl rfl (by exact g1) hfn rfl (by omega) rfl rfl (fun _ => ?_) | refine qQa ?_ | refine Bl fun _ => ?_)
    refine ⟨hlt, g0, ?_, rfl, rfl, rfl, rfl, rfl, rfl, rfl, rfl, rfl, by show AV.int _ _ = AV.int _ _; congr 1, ?_, by show AV.int _ _ = AV.int _ _; congr 1, trivial⟩
    ·rw [iV]; rfl
    ·rw [An]; rfl
   ·rw [if_neg hp, Bv]
    have hp' : ((F.length : Int) + 1) % 2 ≠ 0 := by omega
    repeat' (first | refine qS ?_ | refine Bh (n := zs.length) rfl hzm rfl rfl ?_ | refine Da rfl rfl (by omega) he2 rfl rfl ?_ | refine qQa ?_ | refine Bl fun _ => ?_)
    exact ⟨hlt, g0, g1, rfl, rfl, rfl, rfl, rfl, rfl, rfl, rfl, rfl, by show AV.int _ _ = AV.int _ _; congr 1, rfl, by show AV.int _ _ = AV.int _ _; congr 1, trivial⟩
  ·rw [if_neg (fun h => h2' (h22.1 h)), Bv]
   repeat' (first | refine qS ?_ | refine Bh (n := zs.length) rfl hzm rfl rfl ?_ | refine Da rfl rfl (by omega) he2 rfl rfl ?_ | refine qQa ?_ | refine Ac (fun _ => ?_) (fun _ => ?_) | refine Bl fun _ => ?_)
   exact ⟨hlt, g0, g1, rfl, rfl, rfl, rfl, rfl, rfl, rfl, rfl, rfl, rfl, rfl, by show AV.int _ _ = AV.int _ _; congr 1, trivial⟩
 ·have hin : i = zs.length := by omega
  subst hin
  rw [Ai (by omega)] at g1 ⊢
  repeat' (first | refine qS ?_ | refine Bh (n := zs.length) rfl hzm rfl rfl ?_ | refine qQa ?_ | refine Ac (fun _ => ?_) (fun _ => ?_) | refine Bl fun _ => ?_)
  exact ⟨rfl, g0, g1, rfl, rfl, rfl, rfl, rfl, rfl, rfl, rfl, rfl, rfl, rfl, trivial⟩
theorem Bfk {k : Nat} {l : List UInt8} {ios : List IoV} {A : List Nat} {tot : Except Nat (List ViewV)} {g5 g6 e0 : Nat} {acc0 : List AV} {c1 c2 c3 v13 v14 : AV} {T : Tmps} {H : Heap} (hk : 1000600 ≤ k) (hl : l.length < 1000000) (hil : ios.length < 100000) (hok : ∀ x ∈ ios, Oz (nb l) x ∧ (x.s = 1 ∨ x.data = [])) (hAl : A.length < 100000) (hA : ∀ a ∈ A, a ≤ ios.length)
  (h1 : H 1 = ⟨1, false, .row 1 (NL A)⟩) (h5 : H 5 = ⟨g5, false, .row 3 acc0⟩) (h6 : H 6 = ⟨g6, false, .row 3 [.agg [c1, c2, c3]]⟩) (hal : acc0.length = 1)
  (hs : (e0 ≠ 0 ∧ tot = .error e0) ∨ (e0 = 0 ∧ ∃ vs : List ViewV, acc0 = vs.map ViewV.av ∧ tot = Bas l ios A vs))
  (hT : Has T [(0, .islc false false 1 (BL l)), (1, .islc false false 3 (ios.map IoV.av)), (13, v13), (14, v14), (17, .slc 1 1 A.length 1 0 A.length none), (22, .slc 5 g5 1 3 0 1 none), (23, .ptr 6 g6 1 3 0 0), (24, .int .i64 (e0 : Nat)), (25, .int .i64 0)]) :
  W (Br (CF k) noX 0 k (.loop Azg) T H) (fun ex T' H' => ex = .exit 2 ∧ ∃ (e : Nat) (acc : List AV), H' 5 = ⟨g5, false, .row 3 acc⟩ ∧ ((e ≠ 0 ∧ tot = .error e) ∨ (e = 0 ∧ ∃ vs : List ViewV, acc = vs.map ViewV.av ∧ tot = .ok vs)) ∧
   Has T' [(13, v13), (14, v14), (22, .slc 5 g5 acc.length 3 0 acc.length none), (24, .int .i64 (e : Nat))]) := by
 refine Fj A.length (fun i T' H' => ∃ (e : Nat) (acc : List AV) (c1 c2 c3 : AV), H' 1 = ⟨1, false, .row 1 (NL A)⟩ ∧ H' 5 = ⟨g5, false, .row 3 acc⟩ ∧ H' 6 = ⟨g6, false, .row 3 [.agg [c1, c2, c3]]⟩ ∧ acc.length = i + 1 ∧
   ((e ≠ 0 ∧ tot = .error e) ∨ (e = 0 ∧ ∃ vs : List ViewV, acc = vs.map ViewV.av ∧ tot = Bas l ios (A.drop i) vs)) ∧
   Has T' [(0, .islc false false 1 (BL l)), (1, .islc false false 3 (ios.map IoV.av)), (13, v13), (14, v14), (17, .slc 1 1 A.length 1 0 A.length none), (22, .slc 5 g5 acc.length 3 0 acc.length none), (23, .ptr 6 g6 1 3 0 0), (24, .int .i64 (e : Nat)), (25, .int .i64 (i : Nat))])
  ⟨e0, acc0, c1, c2, c3, h1, h5, h6, by omega, hs, by rw [hal]; exact hT⟩ (by omega) ?_
 clear hT h1 h5 h6 hs hal
 rintro i T H hi ⟨e, acc, c1, c2, c3, q1, q5, q6, hal, hs, hT⟩
 rw [hT.eq]
 simp only [over]
 unfold Azg
 have hml : (ios.map IoV.av).length = ios.length := Ah _
 rcases hs with ⟨he, htot⟩ | ⟨rfl, vs, hvs, htot⟩
 ·have he' : (e : Int) ≠ 0 := by omega
  by_cases hlt : i < A.length
  ·have hlt' : (i : Int) < (A.length : Int) := by omega
   repeat' (first | refine qS ?_ | refine qN ?_ | refine qQb ?_ | refine Ac (fun _ => ?_) (fun _ => ?_) | refine Bl fun _ => ?_)
   exact ⟨rfl, e, acc, q5, .inl ⟨he, htot⟩, rfl, rfl, rfl, rfl, trivial⟩
  ·have hlt' : ¬ (i : Int) < (A.length : Int) := by omega
   repeat' (first | refine qS ?_ | refine qN ?_ | refine qQb ?_ | refine Ac (fun _ => ?_) (fun _ => ?_) | refine Bl fun _ => ?_)
   exact ⟨rfl, e, acc, q5, .inl ⟨he, htot⟩, rfl, rfl, rfl, rfl, trivial⟩
 by_cases hlt : i < A.length
 ·obtain ⟨a, ha⟩ : ∃ a, a = A[i] := ⟨_, rfl⟩
  have hle : a ≤ ios.length := hA a (by rw [ha]; exact Bw hlt)
  rw [Cm hlt, ← ha] at htot
  have hav : A.getD (0 + (i : Int).toNat) default = a := by
   rw [show 0 + (i : Int).toNat = i by omega, ha]; simp [hlt]
  obtain ⟨sub, hsub⟩ : ∃ s, s = ios.take a := ⟨_, rfl⟩
  have hsm : ∀ x ∈ sub, x ∈ ios := fun x hx => by rw [hsub] at hx; exact Bs hx
  have hsl : ((ios.map IoV.av).drop 0).take (a - 0) = sub.map IoV.av := by rw [hsub, Cb, tT, Ja]
  have hsle : sub.length ≤ ios.length := by rw [hsub, Bc]; omega
  have hap := Bln k (by omega) l hl false (false && decide (a = ios.length)) 3 sub (.inl rfl) (by omega) (fun x hx => hok x (hsm x hx))
  have hal3 : (Bt l sub).length = l.length := Of _ _ (fun x hx => fA (hok x (hsm x hx)).1)
  have hvw := Biu k (by omega) false (Bt l sub) (by rw [hal3]; exact hl)
  obtain ⟨f1, f2, f3, s1, s2, s3, e1, e2, e3, e, hvq, _, hcase⟩ := Bdw k (by omega) (l := Bt l sub) (by rw [hal3]; exact hl)
  rw [hvq] at hvw
  simp only [Bas] at htot
  rw [← hsub] at htot
  have hfz : ∀ (z : AV) (H : Heap), fz false 6 H z = z → [z, AV.islc false (false && decide (a = ios.length)) 3 (((ios.map IoV.av).drop 0).take (a - 0))].map (fz false 6 H) = [z, .islc false (false && decide (a = ios.length)) 3 (sub.map IoV.av)] := by
   intro z H hz
   rw [hsl]
   show [fz false 6 H z, _] = _
   rw [hz]; rfl
  generalize Bt l sub = img2 at *
  repeat' (first
   | refine qS ?_ | refine qN ?_ | refine Ds rfl rfl (by exact q1) (by exact Bm A) (by omega) (by omega) (by omega) rfl rfl ?_
   | refine Lt (enc := nav) (l := A) (v := .int .i64 a) ?_ (hr := by exact q1) (hv0 := by rfl) (hi := by omega) (hv := by exact Bo nav hav)
   | refine Cr (n := ios.length) (a := 0) (b := a) rfl (.inl rfl) hml rfl (Ev rfl) (by omega) hle rfl rfl ?_ | refine Ae hap ?_ rfl (by exact hfz _ _ rfl)
   | refine Ae hvw ?_ | refine Co ?_ (hr := by exact q6) | refine Be ?_ (hr := by rfl)
   | refine Lm (e := .agg [.islc false f1 s1 e1, .islc false f2 s2 e2, .islc false f3 s3 e3]) rfl rfl rfl (by exact q5) rfl rfl (by omega) rfl rfl (fun _ => ?_) | refine qQba ?_
   | refine Ac (fun _ => ?_) (fun _ => ?_) | refine Bl fun _ => ?_)
  refine ⟨hlt, e, acc ++ [.agg [.islc false f1 s1 e1, .islc false f2 s2 e2, .islc false f3 s3 e3]], _, _, _, q1, rfl, rfl, by rw [An, hal]; rfl, ?_, rfl, rfl, rfl, rfl, rfl, by rw [An]; rfl, rfl, rfl, by show AV.int _ _ = AV.int _ _; congr 1, trivial⟩
  rcases hcase with ⟨b, hb, hq⟩ | ⟨x, rfl, hq, hxa, hxo⟩
  ·rw [hq] at htot
   exact .inl ⟨hb, htot⟩
  ·rw [hq] at htot
   exact .inr ⟨rfl, vs ++ [Gq img2 x], by rw [Bq, hvs, Aw, Jz, hxa], htot⟩
 ·have hin : i = A.length := by omega
  have hlt' : ¬ (i : Int) < (A.length : Int) := by omega
  rw [hin, Lh] at htot
  repeat' (first | refine qS ?_ | refine qN ?_ | refine qQb ?_ | refine Ac (fun _ => ?_) (fun _ => ?_) | refine Bl fun _ => ?_)
  exact ⟨rfl, 0, acc, q5, .inr ⟨rfl, vs, hvs, htot⟩, rfl, rfl, rfl, rfl, trivial⟩
end Go.Proofs.YtkaiiopoilpjeaaGreat

