import Derived.Test.YtkaiiopoilpjeaaGreatE23
import Derived.Test.YtkaiiopoilpjeaaGreatMF
set_option linter.unusedSimpArgs false
set_option linter.unusedVariables false
set_option maxRecDepth 10000
set_option maxHeartbeats 16000000
namespace Go.Proofs.YtkaiiopoilpjeaaGreat
open Go.AI
attribute [local irreducible] aops Br Cp Dp aop W WO
theorem Bkq (k : Nat) (hk : 1000600 ≤ k) {l : List UInt8} (hl : l.length < 1000000) {zs : List IoZ} (hzl : zs.length ≤ 60) (cut : Int) {keep : List Bool} (hkl : keep.length ≤ 500) :
  ∃ (f1 f2 f3 fs : Bool) (s1 s2 s3 : Nat) (e1 e2 e3 : List AV) (eA : Nat) (ss eS : Nat) (vs : List ViewV),
   FnV (CF k) Ayx [.islc false false 1 (BL l), .islc false false 3 (zs.map IoZ.av), .int .i64 cut, .islc false false 1 (keep.map AV.bool)] (.tup [.agg [.islc false f1 s1 e1, .islc false f2 s2 e2, .islc false f3 s3 e3], .int .i64 eA]) ∧
   FnV (CF k) Ayt [.islc false false 1 (BL l), .islc false false 3 (zs.map IoZ.av)] (.tup [.islc false fs 3 (vs.map ViewV.av), .int .i64 eS]) ∧
   (pN l zs ≠ 0 → eA = pN l zs ∧ eS = pN l zs ∧ vs = [] ∧ FnV (CF k) mQ [.agg [.islc false f1 s1 e1, .islc false f2 s2 e2, .islc false f3 s3 e3], Bfn] (.bool true)) ∧
   (pN l zs = 0 → ((cut < 0 ∨ (zs.length : Int) < cut) → eA = 1 ∧ FnV (CF k) mQ [.agg [.islc false f1 s1 e1, .islc false f2 s2 e2, .islc false f3 s3 e3], Bfn] (.bool true)) ∧
    (¬ (cut < 0 ∨ (zs.length : Int) < cut) → Ajv (pE l (zs.map toIo) cut.toNat keep) (pB (pE l (zs.map toIo) cut.toNat keep)) = .tup [.agg [.islc false f1 s1 e1, .islc false f2 s2 e2, .islc false f3 s3 e3], .int .i64 eA] ∧
     FnV (CF k) mQ [.agg [.islc false f1 s1 e1, .islc false f2 s2 e2, .islc false f3 s3 e3], .agg [.islc false f1 s1 e1, .islc false f2 s2 e2, .islc false f3 s3 e3]] (.bool true)) ∧
    ((∃ e, e ≠ 0 ∧ Azz l (zs.map toIo) = .error e ∧ eS = e ∧ vs = []) ∨ (Azz l (zs.map toIo) = .ok vs ∧ eS = 0 ∧ (∀ v ∈ vs, v.ok) ∧ vs.length < 1000))) := by
 have h0 := Bjj k (by omega)
 by_cases hz : pN l zs = 0
 rotate_left 1
 ·have hA := Bkn k (by omega) l hl zs (by omega) hz cut keep
  have hS := Bkd k (by omega) l hl zs (by omega) hz
  exact ⟨true, true, true, false, 0, 0, 0, [], [], [], pN l zs, 3, pN l zs, [], hA, hS, fun _ => ⟨rfl, rfl, rfl, h0⟩, fun h => absurd h hz⟩
 have hav := Blq hz
 have hE := Bla hz
 have hzm : (zs.map toIo).length = zs.length := Ah _
 have hsd : ∀ x ∈ zs.map toIo, x.s = 1 ∨ x.data = [] := fun x hx => by
  obtain ⟨y, _, rfl⟩ := Bz.1 hx
  exact .inl rfl
 have hfit : ∀ x ∈ zs.map toIo, Ada (nb l) x := fun x hx => fA (Bew hz x hx)
 have hA := Bgu k (by omega) false false l hl false false 3 (zs.map toIo) (.inl rfl) (by omega) hsd cut false false 1 keep (.inl rfl) (by omega)
 have hS := Bhz k (by omega) false l hl false false (zs.map toIo) (by omega) hsd
 rw [← hav] at hA hS
 unfold Bet at hA
 rw [if_neg (fun h => h hE), hzm] at hA
 rw [Bho hE] at hS
 have hdl : ∀ a, (Bt l ((zs.map toIo).take a)).length < 1000000 := fun a => by
  rw [Of _ _ fun x hx => hfit x (Bs hx)]; exact hl
 have hst : ∃ (fs : Bool) (eS : Nat) (vs : List ViewV), stAv (Azz l (zs.map toIo)) = .tup [.islc false fs 3 (vs.map ViewV.av), .int .i64 eS] ∧ ((∃ e, e ≠ 0 ∧ Azz l (zs.map toIo) = .error e ∧ eS = e ∧ vs = []) ∨ (Azz l (zs.map toIo) = .ok vs ∧ eS = 0 ∧ (∀ v ∈ vs, v.ok) ∧ vs.length < 1000)) := by
  cases hp : Azz l (zs.map toIo) with
  | error e =>
   refine ⟨false, e, [], rfl, .inl ⟨e, ?_, rfl, rfl, rfl⟩⟩
   unfold Azz at hp
   cases hq : pB l with
   | error p =>
    obtain ⟨a, e'⟩ := p
    rw [hq] at hp
    have := Nb hq
    cases hp
    omega
   | ok x =>
    rw [hq] at hp
    exact Bgk _ _ hp
  | ok vs =>
   refine ⟨false, 0, vs, rfl, .inr ⟨rfl, rfl, ?_⟩⟩
   unfold Azz at hp
   cases hq : pB l with
   | error p => rw [hq] at hp; cases hp
   | ok x =>
    rw [hq] at hp
    obtain ⟨d1, d2⟩ := Oa hl hq
    obtain ⟨r1, r2⟩ := Bie hdl _ _ _ hp (fun v hv => by rw [Bg.1 hv]; exact Aok d1 d2)
    have := Bds (Zs (zs.map toIo)) 0
    have := rA (zs.map toIo)
    exact ⟨r1, by rw [r2]; simp only [Ao, De]; omega⟩
 obtain ⟨fs, eS, vs, hsa, hsc⟩ := hst
 rw [hsa] at hS
 by_cases hc : cut < 0 ∨ (zs.length : Int) < cut
 ·rw [if_pos hc] at hA
  exact ⟨true, true, true, fs, 0, 0, 0, [], [], [], 1, 3, eS, vs, hA, hS, fun h => absurd hz h, fun _ => ⟨fun _ => ⟨rfl, h0⟩, fun h => absurd hc h, hsc⟩⟩
 ·rw [if_neg hc] at hA
  obtain ⟨f1, f2, f3, s1, s2, s3, e1, e2, e3, e, hvq, hsm, _⟩ := Bdw k (by omega) (l := pE l (zs.map toIo) cut.toNat keep) (by rw [Bcq hfit]; exact hl)
  rw [hvq] at hA
  exact ⟨f1, f2, f3, fs, s1, s2, s3, e1, e2, e3, e, 3, eS, vs, hA, hS, fun h => absurd hz h, fun _ => ⟨fun h => absurd h hc, fun _ => ⟨hvq, hsm⟩, hsc⟩⟩
theorem Bdv {H : Heap} {j g : Nat} {vs : List ViewV} (h : H j = ⟨g, false, .row 3 (vs.map ViewV.av)⟩) : fz false 6 H (.slc j g (vs.map ViewV.av).length 3 0 (vs.map ViewV.av).length none) = .islc true false 3 (vs.map ViewV.av) := by
 have e : (vs.map ViewV.av).map (fz false 5 H) = vs.map ViewV.av := by
  rw [Ha]
  refine Bk fun v _ => ?_
  show AV.agg [_, fz false 4 H (bS v.snaps), fz false 4 H (bS v.opens)] = AV.agg [_, _, _]
  obtain ⟨f2, s2, h2, _⟩ := Wo v.snaps
  obtain ⟨f3, s3, h3, _⟩ := Wo v.opens
  rw [h2, h3]; rfl
 show fz false (5 + 1) H _ = _
 rw [Tf (Fv h rfl) (by omega), Cb, Ch, e]
 rfl
theorem Bfd (l : List UInt8) (hm : l.length ≤ maxLen) (zs : List IoZ) (hzm : zs.length ≤ maxLen) (cut : Int) (keep : List Bool) (hkm : keep.length ≤ maxLen) : ∃ H, CF 1000700 Aym 0 [.islc false false 1 (BL l), .islc false false 3 (zs.map IoZ.av), .int .i64 cut, .islc false false 1 (keep.map AV.bool)] Heap.none = some (.bool true, H) := by
 have h : FnV (CF 1000700) Aym [.islc false false 1 (BL l), .islc false false 3 (zs.map IoZ.av), .int .i64 cut, .islc false false 1 (keep.map AV.bool)] (.bool true) := by
  have hH := Bkl (1000700 - 1) (by omega) false false l zs
  have hW := Bjp (1000700 - 1) (by omega)
  have hkl : (keep.map AV.bool).length = keep.length := Ah _
  have hzl : (zs.map IoZ.av).length = zs.length := Ah _
  cases hv : Bht l zs with
  | true =>
   rw [hv] at hH
   refine fnk (by omega) Ayc rfl ?_
   unfold law27_CrashExact
   repeat' (first | refine qS ?_ | refine qN ?_ | refine Ae hH ?_ | refine qQ ?_ | refine Bl fun _ => ?_)
   exact ⟨Or.inr rfl, _, rfl, rfl⟩
  | false =>
  rw [hv] at hH
  unfold Bht at hv
  simp only [Bool.or_eq_false_iff, decide_eq_false_iff_not, Vq, Dl] at hv
  obtain ⟨hv1, hv2, hv3⟩ := hv
  have hl : l.length < 1000000 := by omega
  by_cases hz6 : zs.length > 60
  ·have hz6' : (zs.length : Int) > 60 := by omega
   refine fnk (by omega) Ayc rfl ?_
   unfold law27_CrashExact
   repeat' (first
    | refine qS ?_ | refine qN ?_ | refine Ae hH ?_ | refine Bh (n := zs.length) rfl hzl rfl rfl ?_ | refine Bh (n := keep.length) rfl hkl rfl rfl ?_ | refine qQ ?_
    | refine Ac (fun _ => ?_) (fun _ => ?_) | refine Bl fun _ => ?_)
   all_goals exact ⟨Or.inr rfl, _, rfl, rfl⟩
  by_cases hk5 : keep.length > 500
  ·refine fnk (by omega) Ayc rfl ?_
   unfold law27_CrashExact
   repeat' (first
    | refine qS ?_ | refine qN ?_ | refine Ae hH ?_ | refine Bh (n := zs.length) rfl hzl rfl rfl ?_ | refine Bh (n := keep.length) rfl hkl rfl rfl ?_ | refine qQ ?_
    | refine Ac (fun _ => ?_) (fun _ => ?_) | refine Bl fun _ => ?_)
   all_goals exact ⟨Or.inr rfl, _, rfl, rfl⟩
  have hzd : ∀ x ∈ zs, x.data.length < 1000000 := fun x hx => by have := hv3 x hx; omega
  have hT := Bmc (1000700 - 1) (by omega) false false l hl
  have hTZ := Blp (1000700 - 1) (by omega) zs (by omega) hzd
  have hC := Bij (1000700 - 1) (by omega) zs (by omega)
  have hB := Atq (1000700 - 1) (by omega) false false false false 1 1 l l hl hl (.inl rfl) (.inl rfl)
  rw [As rfl] at hB
  have hI := Bmf (1000700 - 1) (by omega) zs (by omega) hzd
  have hS := Blg (1000700 - 1) (by omega) l hl zs (by omega)
  have hfl : (Zs (zs.map toIo)).length ≤ 60 := Ic (rA _) (by rw [Ah]; omega)
  obtain ⟨f1, f2, f3, fs, s1, s2, s3, e1, e2, e3, eA, ss, eS, vs, pA, pS, hbad, hgood⟩ := Bkq (1000700 - 1) (by omega) hl (zs := zs) (by omega) cut (keep := keep) (by omega)
  have hvl : (vs.map ViewV.av).length = vs.length := Ah _
  refine fnk (by omega) Ayc rfl ?_
  unfold law27_CrashExact
  repeat' (first
   | refine qS ?_ | refine qN ?_ | refine Ae hH ?_ | refine Bh (n := zs.length) rfl hzl rfl rfl ?_ | refine Bh (n := keep.length) rfl hkl rfl rfl ?_ | refine Ae hT ?_
   | refine Ae hTZ ?_ | refine Ae pA ?_ | refine Ae pS ?_ | refine Ae hC ?_ | refine Ae hB ?_ | refine Ae hI ?_ | refine qQ ?_
   | refine Ac (fun _ => ?_) (fun _ => ?_) | refine Bl fun _ => ?_)
  refine W.mono (Bku (k := 1000700 - 1) (zs := zs) (v0 := .islc false false 1 (BL l)) (v2 := .int .i64 cut) (v3 := .islc false false 1 (keep.map AV.bool)) (v11 := .ptr 0 1 1 3 0 0) (v12 := .int .i64 eA) (v13 := .islc false fs 3 (vs.map ViewV.av)) (v14 := .int .i64 eS) (v15 := .int .i64 ((Zs (zs.map toIo)).length / 2 : Nat)) (by omega) (by omega) rfl ⟨rfl, rfl, rfl, rfl, rfl, rfl, rfl, rfl, rfl, rfl, rfl, rfl, trivial⟩) ?_
  rintro ex T1 H1 ⟨rfl, g0, g1, hT1⟩
  have g0 : H1 0 = ⟨1, false, .row 3 [.agg [.islc false f1 s1 e1, .islc false f2 s2 e2, .islc false f3 s3 e3]]⟩ := g0.trans rfl
  have hO1 := Bds (Zs (zs.map toIo)) 0
  have hO2 := Bji (n := zs.length) (Zs (zs.map toIo)) 0 (fun a ha => by have := ((Azh (zs.map toIo) 0).1 a ha).2; rw [Ah] at this; omega)
  have hq2 : (((Zs (zs.map toIo)).length / 2 : Nat) : Int) = ((Zs (zs.map toIo)).length : Int) / 2 := by omega
  rw [hq2] at hT1
  generalize hFl : (Zs (zs.map toIo)).length = n at *
  obtain ⟨O, hO⟩ : ∃ O, O = oddG (Zs (zs.map toIo)) 0 := ⟨_, rfl⟩
  rw [← hO] at g1 hT1 hO1 hO2
  rw [hT1.eq]
  simp only [over]
  show W _ _
  by_cases hz : pN l zs = 0
  rotate_left 1
  ·obtain ⟨b1, b2, b3, b4⟩ := hbad hz
   subst b1 b2 b3
   have hz' : ((pN l zs : Nat) : Int) ≠ 0 := by omega
   generalize pN l zs = st at *
   unfold Bfn at b4
   repeat' (first
    | refine qS ?_ | refine qN ?_ | refine Ae hS ?_ | refine Be ?_ (hr := by exact g0) | refine Ae b4 ?_ | refine Ae hW ?_ | refine Bh (n := 0) rfl rfl rfl rfl ?_
    | refine qQ ?_ | refine Ac (fun _ => ?_) (fun _ => ?_) | refine Bl fun _ => ?_)
   exact ⟨Or.inr rfl, _, rfl, rfl⟩
  obtain ⟨hG1, hG2, hsc⟩ := hgood hz
  clear hbad hgood pA pS hT hTZ hC hB hI
  rw [hz] at hS
  have hav := Blq hz
  have hzm' : (zs.map toIo).length = zs.length := Ah _
  have hok : ∀ x ∈ zs.map toIo, Oz (nb l) x ∧ (x.s = 1 ∨ x.data = []) := fun x hx => ⟨Bew hz x hx, by
   obtain ⟨y, _, rfl⟩ := Bz.1 hx
   exact .inl rfl⟩
  have hVi := Biu (1000700 - 1) (by omega) false l hl
  obtain ⟨p1, p2, p3, q1, q2, q3, d1, d2, d3, e, hvi, _, hcase⟩ := Bdw (1000700 - 1) (by omega) hl
  rw [hvi] at hVi
  obtain ⟨P, hP⟩ : ∃ P, P = Azz l (zs.map toIo) := ⟨_, rfl⟩
  rw [← hP] at hsc
  have hs0 : (e ≠ 0 ∧ P = .error e) ∨ (e = 0 ∧ ∃ ws : List ViewV, [AV.agg [.islc false p1 q1 d1, .islc false p2 q2 d2, .islc false p3 q3 d3]] = ws.map ViewV.av ∧ P = Bas l (zs.map toIo) O ws) := by
   rcases hcase with ⟨b, hb, hq⟩ | ⟨x, h0, hq, hxa, hxo⟩
   ·refine .inl ⟨hb, ?_⟩
    rw [hP]; unfold Azz; rw [hq]
   ·refine .inr ⟨h0, [Gq l x], by rw [Aw, Jz, hxa], ?_⟩
    rw [hP]; unfold Azz; rw [hq, hO]
  clear hcase hP
  by_cases hc : cut < 0 ∨ (zs.length : Int) < cut
  ·obtain ⟨rfl, hKV0⟩ := hG1 hc
   unfold Bfn at hKV0
   by_cases hc0 : cut < 0
   ·skip
    repeat' (first
     | refine qS ?_ | refine qN ?_ | refine Ae hS ?_ | refine Ae hVi ?_ | refine Bh (n := zs.length) rfl hzl rfl rfl ?_ | refine Be ?_ (hr := by exact g0)
     | refine Ae hKV0 ?_ | refine Co ?_ (hr := by rfl) | refine Be ?_ (hr := by rfl)
     | refine Lm (es := []) (e := .agg [.islc false p1 q1 d1, .islc false p2 q2 d2, .islc false p3 q3 d3]) rfl rfl rfl (by rfl) rfl rfl (by omega) rfl rfl (fun _ => ?_) | refine qQ ?_
     | refine Ac (fun _ => ?_) (fun _ => ?_) | refine Bl fun _ => ?_)
    refine W.mono (Bfk (k := 1000700 - 1) (l := l) (ios := zs.map toIo) (A := O) (tot := P) (e0 := e) (g5 := (H1 5).gen + 1) (g6 := (H1 6).gen + 1) (acc0 := [.agg [.islc false p1 q1 d1, .islc false p2 q2 d2, .islc false p3 q3 d3]]) (c1 := .islc false p1 q1 d1) (c2 := .islc false p2 q2 d2) (c3 := .islc false p3 q3 d3) (v13 := .islc false fs 3 (vs.map ViewV.av)) (v14 := .int .i64 eS) (by omega) hl (by omega) hok (by omega) (by rw [hzm']; exact hO2) g1 rfl rfl rfl hs0 ⟨rfl, Bo (AV.islc false false 3) hav, rfl, rfl, rfl, rfl, rfl, rfl, rfl, trivial⟩) ?_
    rintro ex T2 H2 ⟨rfl, e9, acc, w5, hcs, hT2⟩
    rw [hT2.eq]
    simp only [over]
    show W _ _
    rcases hcs with ⟨he9, hp9⟩ | ⟨rfl, vs9, rfl, hp9⟩
    ·obtain ⟨rfl, rfl⟩ : eS = e9 ∧ vs = [] := by
      rcases hsc with ⟨e7, h7, h8, h9, h10⟩ | ⟨h7, _⟩
      ·rw [hp9] at h8
       cases h8
       exact ⟨h9, h10⟩
      ·rw [hp9] at h7; cases h7
     have he9' : (eS : Int) ≠ 0 := by omega
     repeat' (first | refine qS ?_ | refine qN ?_ | refine Ae hW ?_ | refine Bh (n := 0) rfl rfl rfl rfl ?_ | refine qQ ?_ | refine Ac (fun _ => ?_) (fun _ => ?_) | refine Bl fun _ => ?_)
     exact ⟨Or.inr rfl, _, rfl, rfl⟩
    ·obtain ⟨rfl, rfl, hvo, hvn⟩ : eS = 0 ∧ vs = vs9 ∧ (∀ v ∈ vs, v.ok) ∧ vs.length < 1000 := by
      rcases hsc with ⟨e7, h7, h8, h9, h10⟩ | ⟨h7, h8, h9, h10⟩
      ·rw [hp9] at h8; cases h8
      ·rw [hp9] at h7
       cases h7
       exact ⟨h8, rfl, h9, h10⟩
     have hKV := Bab (1000700 - 1) (by omega) false fs true false 3 3 vs vs (by omega) (by omega) (.inl rfl) (.inl rfl) hvo hvo
     rw [As rfl] at hKV
     repeat' (first
      | refine qS ?_ | refine qN ?_ | refine Ae hKV ?_ rfl (by exact Bo (fun z => [_, z]) (Bdv (by exact w5))) | refine Ae hW ?_ | refine qQ ?_
      | refine Ac (fun _ => ?_) (fun _ => ?_) | refine Bl fun _ => ?_)
     exact ⟨Or.inr rfl, _, rfl, rfl⟩
   ·have hc1 : (zs.length : Int) < cut := by omega
    repeat' (first
     | refine qS ?_ | refine qN ?_ | refine Ae hS ?_ | refine Ae hVi ?_ | refine Bh (n := zs.length) rfl hzl rfl rfl ?_ | refine Be ?_ (hr := by exact g0)
     | refine Ae hKV0 ?_ | refine Co ?_ (hr := by rfl) | refine Be ?_ (hr := by rfl)
     | refine Lm (es := []) (e := .agg [.islc false p1 q1 d1, .islc false p2 q2 d2, .islc false p3 q3 d3]) rfl rfl rfl (by rfl) rfl rfl (by omega) rfl rfl (fun _ => ?_) | refine qQ ?_
     | refine Ac (fun _ => ?_) (fun _ => ?_) | refine Bl fun _ => ?_)
    refine W.mono (Bfk (k := 1000700 - 1) (l := l) (ios := zs.map toIo) (A := O) (tot := P) (e0 := e) (g5 := (H1 5).gen + 1) (g6 := (H1 6).gen + 1) (acc0 := [.agg [.islc false p1 q1 d1, .islc false p2 q2 d2, .islc false p3 q3 d3]]) (c1 := .islc false p1 q1 d1) (c2 := .islc false p2 q2 d2) (c3 := .islc false p3 q3 d3) (v13 := .islc false fs 3 (vs.map ViewV.av)) (v14 := .int .i64 eS) (by omega) hl (by omega) hok (by omega) (by rw [hzm']; exact hO2) g1 rfl rfl rfl hs0 ⟨rfl, Bo (AV.islc false false 3) hav, rfl, rfl, rfl, rfl, rfl, rfl, rfl, trivial⟩) ?_
    rintro ex T2 H2 ⟨rfl, e9, acc, w5, hcs, hT2⟩
    rw [hT2.eq]
    simp only [over]
    show W _ _
    rcases hcs with ⟨he9, hp9⟩ | ⟨rfl, vs9, rfl, hp9⟩
    ·obtain ⟨rfl, rfl⟩ : eS = e9 ∧ vs = [] := by
      rcases hsc with ⟨e7, h7, h8, h9, h10⟩ | ⟨h7, _⟩
      ·rw [hp9] at h8
       cases h8
       exact ⟨h9, h10⟩
      ·rw [hp9] at h7; cases h7
     have he9' : (eS : Int) ≠ 0 := by omega
     repeat' (first | refine qS ?_ | refine qN ?_ | refine Ae hW ?_ | refine Bh (n := 0) rfl rfl rfl rfl ?_ | refine qQ ?_ | refine Ac (fun _ => ?_) (fun _ => ?_) | refine Bl fun _ => ?_)
     exact ⟨Or.inr rfl, _, rfl, rfl⟩
    ·obtain ⟨rfl, rfl, hvo, hvn⟩ : eS = 0 ∧ vs = vs9 ∧ (∀ v ∈ vs, v.ok) ∧ vs.length < 1000 := by
      rcases hsc with ⟨e7, h7, h8, h9, h10⟩ | ⟨h7, h8, h9, h10⟩
      ·rw [hp9] at h8; cases h8
      ·rw [hp9] at h7
       cases h7
       exact ⟨h8, rfl, h9, h10⟩
     have hKV := Bab (1000700 - 1) (by omega) false fs true false 3 3 vs vs (by omega) (by omega) (.inl rfl) (.inl rfl) hvo hvo
     rw [As rfl] at hKV
     repeat' (first
      | refine qS ?_ | refine qN ?_ | refine Ae hKV ?_ rfl (by exact Bo (fun z => [_, z]) (Bdv (by exact w5))) | refine Ae hW ?_ | refine qQ ?_
      | refine Ac (fun _ => ?_) (fun _ => ?_) | refine Bl fun _ => ?_)
     exact ⟨Or.inr rfl, _, rfl, rfl⟩
  obtain ⟨hvq, hKV1⟩ := hG2 hc
  have hc0 : ¬ cut < 0 := by omega
  have hc1 : ¬ (zs.length : Int) < cut := by omega
  obtain ⟨c, rfl⟩ : ∃ c : Nat, cut = c := ⟨cut.toNat, by omega⟩
  rw [Bd] at hvq
  have hcl : (pE l (zs.map toIo) c keep).length = l.length := Bcq fun x hx => fA (hok x hx).1
  have hrC := Bli (1000700 - 1) (by omega) l hl (zs.map toIo) (by omega) hok c (by omega) keep (by omega) hcl
  rw [← hav] at hrC
  have hrV := Biu (1000700 - 1) (by omega) false (pE l (zs.map toIo) c keep) (by rw [hcl]; exact hl)
  rw [hvq] at hrV
  generalize pE l (zs.map toIo) c keep = img2 at *
  repeat' (first
   | refine qS ?_ | refine qN ?_ | refine Ae hS ?_ | refine Ae hVi ?_ | refine Bh (n := zs.length) rfl hzl rfl rfl ?_ | refine Be ?_ (hr := by exact g0)
   | refine Ae hrC ?_ | refine Ae hrV ?_ | refine Ae hKV1 ?_ | refine Co ?_ (hr := by rfl) | refine Be ?_ (hr := by rfl)
   | refine Lm (es := []) (e := .agg [.islc false p1 q1 d1, .islc false p2 q2 d2, .islc false p3 q3 d3]) rfl rfl rfl (by rfl) rfl rfl (by omega) rfl rfl (fun _ => ?_) | refine qQ ?_
   | refine Ac (fun _ => ?_) (fun _ => ?_) | refine Bl fun _ => ?_)
  refine W.mono (Bfk (k := 1000700 - 1) (l := l) (ios := zs.map toIo) (A := O) (tot := P) (e0 := e) (g5 := (H1 5).gen + 1) (g6 := (H1 6).gen + 1) (acc0 := [.agg [.islc false p1 q1 d1, .islc false p2 q2 d2, .islc false p3 q3 d3]]) (c1 := .islc false p1 q1 d1) (c2 := .islc false p2 q2 d2) (c3 := .islc false p3 q3 d3) (v13 := .islc false fs 3 (vs.map ViewV.av)) (v14 := .int .i64 eS) (by omega) hl (by omega) hok (by omega) (by rw [hzm']; exact hO2) g1 rfl rfl rfl hs0 ⟨rfl, Bo (AV.islc false false 3) hav, rfl, rfl, rfl, rfl, rfl, rfl, rfl, trivial⟩) ?_
  rintro ex T2 H2 ⟨rfl, e9, acc, w5, hcs, hT2⟩
  rw [hT2.eq]
  simp only [over]
  show W _ _
  rcases hcs with ⟨he9, hp9⟩ | ⟨rfl, vs9, rfl, hp9⟩
  ·obtain ⟨rfl, rfl⟩ : eS = e9 ∧ vs = [] := by
    rcases hsc with ⟨e7, h7, h8, h9, h10⟩ | ⟨h7, _⟩
    ·rw [hp9] at h8
     cases h8
     exact ⟨h9, h10⟩
    ·rw [hp9] at h7; cases h7
   have he9' : (eS : Int) ≠ 0 := by omega
   repeat' (first | refine qS ?_ | refine qN ?_ | refine Ae hW ?_ | refine Bh (n := 0) rfl rfl rfl rfl ?_ | refine qQ ?_ | refine Ac (fun _ => ?_) (fun _ => ?_) | refine Bl fun _ => ?_)
   exact ⟨Or.inr rfl, _, rfl, rfl⟩
  ·obtain ⟨rfl, rfl, hvo, hvn⟩ : eS = 0 ∧ vs = vs9 ∧ (∀ v ∈ vs, v.ok) ∧ vs.length < 1000 := by
    rcases hsc with ⟨e7, h7, h8, h9, h10⟩ | ⟨h7, h8, h9, h10⟩
    ·rw [hp9] at h8; cases h8
    ·rw [hp9] at h7
     cases h7
     exact ⟨h8, rfl, h9, h10⟩
   have hKV := Bab (1000700 - 1) (by omega) false fs true false 3 3 vs vs (by omega) (by omega) (.inl rfl) (.inl rfl) hvo hvo
   rw [As rfl] at hKV
   repeat' (first
    | refine qS ?_ | refine qN ?_ | refine Ae hKV ?_ rfl (by exact Bo (fun z => [_, z]) (Bdv (by exact w5))) | refine Ae hW ?_ | refine qQ ?_
    | refine Ac (fun _ => ?_) (fun _ => ?_) | refine Bl fun _ => ?_)
   exact ⟨Or.inr rfl, _, rfl, rfl⟩
 obtain ⟨u, H, h1, h2⟩ := h
 exact ⟨H, by rw [h1, Ato h2]⟩
end Go.Proofs.YtkaiiopoilpjeaaGreat

