import Derived.Test.YtkaiiopoilpjeaaGreatF14
import Derived.Test.YtkaiiopoilpjeaaGreatMJ8
set_option linter.unusedSimpArgs false
set_option linter.unusedVariables false
set_option maxRecDepth 10000
set_option maxHeartbeats 16000000
namespace Go.Proofs.YtkaiiopoilpjeaaGreat
open Go.AI
def twIo (x : IoV) : IoV := ⟨x.kind, x.at0, x.data, false, false, 1⟩
theorem Ayd (a b : List IoV) : Like (a.map twIo ++ b) (a ++ b) := by
 unfold Like
 rw [Bn, Bn, Gb]; rfl
theorem cB : ∀ l : List IoV, Cb (l.map IoV.av) = true
 | [] => rfl
 | x :: l => by
  show (x.av.norefs && Cb (l.map IoV.av)) = true
  rw [cB l, Us]; rfl
theorem Bdu (n : Nat) (H : Heap) (l : List IoV) : (l.map IoV.av).map (fz false (n + 2) H) = l.map IoV.av := by
 rw [Gb]
 exact Bg fun _ _ => rfl
theorem Akv {l : List UInt8} {id : Int} {ios : List IoV} (hl : l.length < 1000000) (h : Gx l id = .ok ios) : ios.length < 2000 := by
 obtain ⟨x, x', hd, hI, hc, hmk, _⟩ := iY hl h
 have hx := (La hd hI).few
 unfold Mz at hmk
 split at hmk
 ·cases hmk
 split at hmk
 ·cases hmk
 cases hmk
 obtain ⟨h1, h2⟩ := qH (Hr x.recs 0 (Qp x id) true) (Es (Cs l x)) (x.blocks.getD 0 default)
 have : (Hr x.recs 0 (Qp x id) true).length ≤ x.recs.length + 1 := by
  unfold Hr
  rw [An, fX, Ba]
  split <;> simp <;> omega
 rw [Pl]; omega
attribute [local irreducible] aops Bo Cn Dh aop W WO
theorem Ayv (k : Nat) (hk : 1 ≤ k) (t f : Bool) (s : Nat) (l : List UInt8) (hs : s = 1 ∨ l = []) (hl : l.length < 1000000) : FnV (CF k) rA [.islc t f s (BL l)] (.islc false false 1 (BL l)) := by
 refine fnk (by omega) Ahp rfl ?_
 unfold oW
 repeat' (first | refine qS ?_ | refine Atz (l := []) rfl rfl hs rfl rfl (by omega) rfl rfl (fun _ => ?_) | refine qQb ?_ | refine Bh fun _ => ?_)
 exact ⟨Or.inr rfl, _, rfl, Agc (l := l) rfl (by simp)⟩
theorem Atn {k : Nat} {ios : List IoV} {t f : Bool} {T : Tmps} {H : Heap} (hk : 1000010 ≤ k) (hok : IosOk ios) (h1 : H 1 = ⟨1, false, .row 3 []⟩)
  (hT : Has T [(0, .islc t f 3 (ios.map IoV.av)), (3, .slc 1 1 0 3 0 0 none), (4, .int .i64 0)]) :
  W (Bo (CF k) noX 0 k (.loop bI) T H) (fun ex T' H' => ex = .exit 0 ∧ H' 1 = ⟨1, false, .row 3 ((ios.map twIo).map IoV.av)⟩ ∧ T' 3 = .slc 1 1 ios.length 3 0 ios.length none) := by
 have hil := hok.1
 refine Fc ios.length (fun i T' H' => H' 1 = ⟨1, false, .row 3 (((ios.take i).map twIo).map IoV.av)⟩ ∧ Has T' [(0, .islc t f 3 (ios.map IoV.av)), (3, .slc 1 1 i 3 0 i none), (4, .int .i64 (i : Nat))]) ⟨h1, hT⟩ (by omega) ?_
 rintro i T H hi ⟨g1, hT⟩
 rw [hT.eq]
 simp only [over]
 unfold bI
 have hml : (ios.map IoV.av).length = ios.length := Ag _
 by_cases hlt : i < ios.length
 ·obtain ⟨y, hy⟩ : ∃ y, y = ios[i] := ⟨_, rfl⟩
  have hyo := hok.2 y (by rw [hy]; exact Bs hlt)
  have hst : ((ios.take (i + 1)).map twIo).map IoV.av = ((ios.take i).map twIo).map IoV.av ++ [(twIo y).av] := by
   rw [Ax hlt, ← hy]; simp
  have hes : (((ios.take i).map twIo).map IoV.av).length = i := by simp; omega
  have he2 : (ios.map IoV.av)[(i : Int).toNat]? = some y.av := by
   rw [As, Az, Ab hlt, ← hy]; rfl
  rw [hst]
  obtain ⟨kd, a, dt, yt, yf, ys⟩ := y
  have hW := Ayv k (by omega) yt yf ys dt hyo.1 hyo.2
  generalize ((ios.take i).map twIo).map IoV.av = es at *
  have he3 : (ios.map IoV.av)[(i : Int).toNat]? = some (.agg [.int .i64 kd, .int .i64 a, .islc yt yf ys (BL dt)]) := he2
  repeat' (first
   | refine qS ?_ | refine Ak (n := ios.length) rfl hml rfl rfl ?_ | refine Ce rfl rfl (by omega) he3 rfl rfl ?_ | refine Aa hW ?_
   | refine Kw (e := .agg [.int .i64 kd, .int .i64 a, .islc false false 1 (BL dt)]) rfl rfl rfl (by exact g1) hes rfl (by omega) rfl rfl (fun _ => ?_) | refine qQba ?_
   | refine Ac (fun _ => ?_) (fun _ => ?_) | refine Bh fun _ => ?_)
  exact ⟨hlt, rfl, rfl, rfl, by show AV.int _ _ = AV.int _ _; congr 1, trivial⟩
 ·have hin : i = ios.length := by omega
  subst hin
  rw [Ca] at g1
  repeat' (first | refine qS ?_ | refine Ak (n := ios.length) rfl hml rfl rfl ?_ | refine qQba ?_ | refine Ac (fun _ => ?_) (fun _ => ?_) | refine Bh fun _ => ?_)
  exact ⟨rfl, g1, rfl⟩
theorem Aqs (k : Nat) (hk : 1000020 ≤ k) (t f : Bool) (ios : List IoV) (hok : IosOk ios) : FnFG (CF k) Vm [.islc t f 3 (ios.map IoV.av)] 3 ((ios.map twIo).map IoV.av) := by
 have h : ∃ u H', CF k Vm 0 [.islc t f 3 (ios.map IoV.av)] Heap.none = some (u, H') ∧ (u = .slc 1 1 ios.length 3 0 ios.length none ∧ H' 1 = ⟨1, false, .row 3 ((ios.map twIo).map IoV.av)⟩) := by
  refine fni (by omega) wR rfl ?_
  unfold keep_TwinIos
  repeat' (first | refine qQb ?_ | refine Ac (fun _ => ?_) (fun _ => ?_) | refine Bh fun _ => ?_)
  refine W.mono (Atn (k := k - 1) (ios := ios) (t := t) (f := f) (by omega) hok rfl ⟨rfl, rfl, rfl, trivial⟩) ?_
  rintro ex T2 H2 ⟨rfl, g1, h3⟩
  rw [Has.eq (T := T2) (ps := [(3, _)]) ⟨h3, trivial⟩]
  simp only [over]
  show W _ _
  repeat' (first | refine qQb ?_ | refine Ac (fun _ => ?_) (fun _ => ?_) | refine Bh fun _ => ?_)
  exact ⟨Or.inr rfl, _, rfl, rfl, g1⟩
 obtain ⟨u, H', h1, rfl, h2⟩ := h
 refine ⟨1, 1, H', ?_, h2, cB _, Agq true 4 H' _ fun x hx => by obtain ⟨y, _, rfl⟩ := Cm.1 hx; rfl⟩
 rw [h1, Ag, Ag]
theorem zS (l : List UInt8) (hm : l.length ≤ maxLen) (id frm cut : Int) (d : List UInt8) (hdm : d.length ≤ maxLen) (keep : List Bool) (hkm : keep.length ≤ maxLen) : ∃ H, CF 1000700 Rf 0 [.islc false false 1 (BL l), .int .i64 id, .int .i64 frm, .int .i64 cut, .islc false false 1 (BL d), .islc false false 1 (keep.map AV.bool)] Heap.none = some (.bool true, H) := by
 suffices h : FnV (CF 1000700) Rf [.islc false false 1 (BL l), .int .i64 id, .int .i64 frm, .int .i64 cut, .islc false false 1 (BL d), .islc false false 1 (keep.map AV.bool)] (.bool true) by
  obtain ⟨u, H, h1, h2⟩ := h
  refine ⟨H, ?_⟩
  rw [h1, fB h2]
 have hH := Zd (1000700 - 1) (by omega) false false l
 have hW := fL (1000700 - 1) (by omega)
 have hkl : (keep.map AV.bool).length = keep.length := Ag _
 have hdl : (BL d).length = d.length := BL_length d
 by_cases hl1 : l.length > 19200
 ·rw [Aq hl1] at hH
  refine fnk (by omega) Ji rfl ?_
  unfold Id
  repeat' (first | refine qS ?_ | refine qN ?_ | refine Aa hH ?_ | refine qQ ?_ | refine Bh fun _ => ?_)
  exact ⟨Or.inr rfl, _, rfl, rfl⟩
 rw [Ay hl1] at hH
 have hl : l.length < 1000000 := by omega
 by_cases hd1 : d.length > 512
 ·have hd1' : (d.length : Int) > 512 := by omega
  refine fnk (by omega) Ji rfl ?_
  unfold Id
  repeat' (first | refine qS ?_ | refine qN ?_ | refine Aa hH ?_ | refine Ak (n := d.length) rfl hdl rfl rfl ?_ | refine qQ ?_ | refine Bh fun _ => ?_)
  exact ⟨Or.inr rfl, _, rfl, rfl⟩
 have hd1' : ¬ (d.length : Int) > 512 := by omega
 by_cases hk1 : keep.length > 200
 ·have hk1' : (keep.length : Int) > 200 := by omega
  refine fnk (by omega) Ji rfl ?_
  unfold Id
  repeat' (first | refine qS ?_ | refine qN ?_ | refine Aa hH ?_ | refine Ak (n := d.length) rfl hdl rfl rfl ?_ | refine Ak (n := keep.length) rfl hkl rfl rfl ?_ | refine qQ ?_ | refine Bh fun _ => ?_)
  exact ⟨Or.inr rfl, _, rfl, rfl⟩
 have hk1' : ¬ (keep.length : Int) > 200 := by omega
 have pO := c_Do (1000700 - 1) (by omega) false l hl 0 (.inl rfl) frm 0 0 false false 1 d (.inl rfl) (by omega)
 cases h : doP l 0 frm 0 0 d with
 | error e =>
  rw [h] at pO
  have he := fK h
  have he' : (e : Int) ≠ 0 := by omega
  unfold Ma at pO
  simp only at pO
  have pA := Up (1000700 - 1) (by omega) false false l hl false true 0 [] (.inr rfl) (by decide) (fun _ h => by cases h)
  have hx : ∃ (f : Bool) (s : Nat) (es : List AV) (e2 : Nat), Pf l [] = .tup [.islc false f s es, .int .i64 e2] := by
   unfold Pf
   split
   ·exact ⟨_, _, _, _, rfl⟩
   ·exact ⟨_, _, _, 0, rfl⟩
  obtain ⟨xf, xs, xes, xe, hxa⟩ := hx
  rw [hxa] at pA
  refine fnk (by omega) Ji rfl ?_
  unfold Id
  repeat' (first
   | refine qS ?_ | refine qN ?_ | refine Aa hH ?_ | refine Ak (n := d.length) rfl hdl rfl rfl ?_ | refine Ak (n := keep.length) rfl hkl rfl rfl ?_ | refine Aa pO ?_
   | refine Aa pA ?_ | refine Aa hW ?_ | refine Ak (n := 0) rfl rfl rfl rfl ?_ | refine qQ ?_ | refine Bh fun _ => ?_)
  exact ⟨Or.inr rfl, _, rfl, rfl⟩
 | ok ios =>
  rw [h] at pO
  obtain ⟨⟨x, x', _, hO, _⟩, hok, hle⟩ := oM hl h
  unfold Ma at pO
  simp only at pO
  have hil := hok.1
  have hio := fun y hy => (hok.2 y hy).1
  have hl' : (Bl l ios).length < 1000000 := by rw [hO.len]; exact hl
  have pA := Up (1000700 - 1) (by omega) false false l hl false false 3 ios (.inl rfl) hil hio
  unfold Pf at pA
  rw [if_neg (fun h => h hO.right)] at pA
  have pC := Ym (1000700 - 1) (by omega) false (Bl l ios) hl' id
  cases h2 : Gx (Bl l ios) id with
  | error e =>
   rw [h2] at pC
   have he := cT h2
   have he' : (e : Int) ≠ 0 := by omega
   unfold Ma at pC
   simp only at pC
   generalize Bl l ios = l2 at *
   refine fnk (by omega) Ji rfl ?_
   unfold Id
   repeat' (first
    | refine qS ?_ | refine qN ?_ | refine Aa hH ?_ | refine Ak (n := d.length) rfl hdl rfl rfl ?_ | refine Ak (n := keep.length) rfl hkl rfl rfl ?_ | refine Aa pO ?_
    | refine Aa pA ?_ | refine Aa pC ?_ | refine Aa hW ?_ | refine Ak (n := 0) rfl rfl rfl rfl ?_ | refine qQ ?_ | refine Bh fun _ => ?_)
   exact ⟨Or.inr rfl, _, rfl, rfl⟩
  | ok ios2 =>
   rw [h2] at pC
   unfold Ma at pC
   simp only at pC
   obtain ⟨x1, x2, hO2⟩ := Ami hl' h2
   have hx1 : x1 = x' := by
    have a := (Fk hl').2 ⟨hO2.dev, hO2.img⟩
    rw [(Fk hl').2 ⟨Pk hO.dev hO.len, hO.img'⟩] at a
    exact (Except.ok.inj a).symm
   subst hx1
   have hok2 := Ve hl' h2
   have hil2 := hok2.1
   have hcnt : ios.length + ios2.length < 100000 := by
    have h3 := Akv hl' h2
    omega
   have hokA : IosOk (ios.map twIo ++ ios2) := by
    refine IosOk.append ⟨by rw [Ag]; exact hil, fun y hy => ?_⟩ hok2 (by rw [Ag]; exact hcnt)
    obtain ⟨z, hz, rfl⟩ := Cm.1 hy
    exact ⟨.inl rfl, (hok.2 z hz).2⟩
   have hT := Aqs (1000700 - 1) (by omega) false false ios hok
   have htl : ((ios.map twIo).map IoV.av).length = ios.length := by rw [Ag, Ag]
   have hn2 := cB ios2
   have hml2 : (ios2.map IoV.av).length = ios2.length := Ag _
   obtain ⟨A, hA⟩ : ∃ A, A = ios.map twIo ++ ios2 := ⟨_, rfl⟩
   have hAm : (ios.map twIo).map IoV.av ++ ios2.map IoV.av = A.map IoV.av := by rw [hA, Bn]
   have hAl : A.length = ios.length + ios2.length := by rw [hA, An, Ag]
   have hL := Ayd ios ios2
   rw [← hA] at hokA hL
   obtain ⟨c, hc, hcl⟩ := modN cut (A.length + 1) (by omega)
   have hc' : cut % 18446744073709551616 % (((ios.length + ios2.length : Nat) : Int) + 1) = (c : Int) := by
    rw [← hc, hAl]; congr 1
   have pH := Ant (1000700 - 1) (by omega) false hO hO2 hL hokA true false c (by omega) false false 1 keep (.inl rfl) (by omega)
   have hfz : ∀ {H : Heap} {g : Nat}, H 0 = ⟨g, false, .row 3 ((ios.map twIo).map IoV.av ++ ios2.map IoV.av)⟩ → fz false 6 H (.slc 0 g (ios.length + ios2.length) 3 0 (ios.length + ios2.length) none) = .islc true false 3 (A.map IoV.av) := by
    intro H g h0
    have hl3 : (A.map IoV.av).length = ios.length + ios2.length := by rw [Ag, hAl]
    rw [hAm] at h0
    rw [Qc (Fh h0 (by omega)) (by omega), Bv, Ah (by omega), Bdu 3 H A]
    rfl
   generalize Bl l ios = l2 at *
   refine fnk (by omega) Ji rfl ?_
   unfold Id
   repeat' (first
    | refine qS ?_ | refine qN ?_ | refine Aa hH ?_ | refine Ak (n := d.length) rfl hdl rfl rfl ?_ | refine Ak (n := keep.length) rfl hkl rfl rfl ?_ | refine Aa pO ?_
    | refine Aa pA ?_ | refine Aa pC ?_ | refine Aa hW ?_ | refine Ob (n := ios.length) hT htl rfl rfl rfl ?_
    | refine Aot rfl rfl (.inl rfl) rfl htl hn2 (by rw [hml2]; omega) rfl rfl (fun _ => ?_) | refine Aa pH ?_ rfl (by exact Bp (fun z => [_, z, _, _, _]) (hfz (by rfl)))
    | (rw [hml2]) | (rw [hc']) | refine qQ ?_ | refine Bh fun _ => ?_)
   exact ⟨Or.inr rfl, _, rfl, rfl⟩
end Go.Proofs.YtkaiiopoilpjeaaGreat

