import Derived.Test.YtkpndfkpdnknkaaGreatE15
import Derived.Test.YtkpndfkpdnknkaaGreatE4c
import Derived.Test.YtkpndfkpdnknkaaGreatMF
set_option linter.unusedSimpArgs false
set_option linter.unusedVariables false
set_option maxRecDepth 10000
set_option maxHeartbeats 16000000
namespace Go.Proofs.YtkpndfkpdnknkaaGreat
open Go.AI
theorem Amf {l : List UInt8} {a b : List IoV} (h : Kw l b = 0) (hs : ∀ x ∈ a, x ∈ b) : Kw l a = 0 := by
 obtain ⟨hd, hr⟩ := zL h
 unfold Kw
 rw [if_neg (fun hh => hh hd), if_neg]
 intro hh
 obtain ⟨x, hx, hxe⟩ := Ge.1 hh
 rw [An (hr x (hs x hx))] at hxe
 cases hxe
theorem Adq (w : ViewV) : ∃ (f2 f3 : Bool) (s2 s3 : Nat), w.av = .agg [.islc false false 1 (w.head.map El), .islc false f2 s2 (w.snaps.map SnapV.av), .islc false f3 s3 (w.opens.map SnapV.av)] := by
 obtain ⟨f2, s2, h2, _⟩ := Sp w.snaps
 obtain ⟨f3, s3, h3, _⟩ := Sp w.opens
 exact ⟨f2, f3, s2, s3, by unfold ViewV.av ViewV.cs Tb; rw [h2, h3]⟩
theorem Agy {l : List UInt8} {x : Img} {io0 : List IoV} (hd : Dev l) (hI : IsImg l x) (hF : Frees l x io0) : (Bs l (iosW io0)).length = l.length ∧ lookQ (Bs l (iosW io0)) = .ok x ∧ Ci (Bs l (iosW io0)) x = Ci l x := by
 have hfit : ∀ y ∈ iosW io0, zE (nb l) y := fun y hy => by
  obtain ⟨z, hz, rfl⟩ := Bt.1 hy
  have := hF.fit z hz
  exact fun _ => ⟨this.2.1, this.2.2⟩
 have hk : ∀ a, reached l x a → blk (Bs l (iosW io0)) a = blk l a := fun a ha => Sd _ l hfit fun y hy hk he => by
  obtain ⟨z, hz, rfl⟩ := Bt.1 hy
  exact hF.free z hz (by rw [show z.at0 = a from he]; exact ha)
 have hlen := Oe (iosW io0) l hfit
 exact ⟨hlen, (Iy (by rw [hlen]; exact hd.1)).2 ⟨uP hd hlen, Api hI hlen hk⟩, Ahw hI hk⟩
attribute [local irreducible] aops Bp Cs Df aop W WO
theorem Ahi {k N i : Nat} {es : List AV} {A : Nat → Nat} {D : Nat → List AV} {L : Int} {T : Tmps} {H : Heap} (hk : 1000000 ≤ k) (hN : N < 100000) (hi : i < N)
  (hes : ∀ j, j < N → es[j]? = some (.agg [.int .i64 1, .int .i64 (A j : Nat), .islc false false 1 (D j)])) (hA : ∀ a b, a < b → b < N → A a ≠ A b)
  (hT : Has T [(13, .islc false false 3 es), (17, .int .i64 L), (18, .int .i64 (i : Nat)), (19, .int .i64 0)]) :
  W (Bp (CF k) noX 0 k (.loop Uy) T H) (fun ex T' H' => ex = .exit 2 ∧ H' = H ∧ Has T' [(13, .islc false false 3 es), (17, .int .i64 L), (18, .int .i64 (i : Nat))] ∧ T' 0 = T 0) := by
 refine Fa i (fun j T' H' => H' = H ∧ T' 0 = T 0 ∧ Has T' [(13, .islc false false 3 es), (17, .int .i64 L), (18, .int .i64 (i : Nat)), (19, .int .i64 (j : Nat))]) ⟨rfl, rfl, hT⟩ (by omega) ?_
 rintro j T2 H2 hj ⟨rfl, h0, hT2⟩
 rw [hT2.eq]
 simp only [over]
 unfold Uy
 by_cases hlt : j < i
 ·have e1 : es[(j : Int).toNat]? = _ := hes j (by omega)
  have e2 : es[(i : Int).toNat]? = _ := hes i hi
  have hne : ¬ (A j : Int) = A i := by have := hA j i hlt hi; omega
  have hlt' : (j : Int) < i := by omega
  repeat' (first | refine qS ?_ | refine Cz rfl rfl (by omega) e1 rfl rfl ?_ | refine Cz rfl rfl (by omega) e2 rfl rfl ?_ | refine qQba ?_ | fail)
  exact ⟨hlt, rfl, h0, rfl, rfl, rfl, by show AV.int _ _ = AV.int _ _; congr 1, trivial⟩
 ·have hin : j = i := by omega
  subst hin
  repeat' (first | refine qQba ?_ | fail)
  exact ⟨rfl, rfl, ⟨rfl, rfl, rfl, trivial⟩, h0⟩
theorem Agg {k N : Nat} {es : List AV} {A : Nat → Nat} {D : Nat → List AV} {L : Int} {T : Tmps} {H : Heap} (hk : 1000000 ≤ k) (hN : N < 100000) (hL : L = (N : Int) + 3)
  (hes : ∀ j, j < N → es[j]? = some (.agg [.int .i64 1, .int .i64 (A j : Nat), .islc false false 1 (D j)])) (hA : ∀ a b, a < b → b < N → A a ≠ A b) (hA2 : ∀ a, a < N → 2 ≤ A a)
  (hT : Has T [(13, .islc false false 3 es), (17, .int .i64 L), (18, .int .i64 0)]) :
  W (Bp (CF k) noX 0 k (.loop Ug) T H) (fun ex T' H' => ex = .exit 0 ∧ H' = H ∧ Has T' [(13, .islc false false 3 es), (17, .int .i64 L)] ∧ T' 0 = T 0) := by
 refine Fa N (fun i T' H' => H' = H ∧ T' 0 = T 0 ∧ Has T' [(13, .islc false false 3 es), (17, .int .i64 L), (18, .int .i64 (i : Nat))]) ⟨rfl, rfl, hT⟩ (by omega) ?_
 rintro i T2 H2 hi ⟨rfl, h0, hT2⟩
 rw [hT2.eq]
 simp only [over]
 unfold Ug
 by_cases hlt : i < N
 ·have e1 : es[(i : Int).toNat]? = _ := hes i hlt
  have h2 := hA2 i hlt
  have h2' : ¬ (A i : Int) < 2 := by omega
  have hlt' : (i : Int) < L - 3 := by omega
  repeat' (first | refine qS ?_ | refine qN ?_ | refine Cz rfl rfl (by omega) e1 rfl rfl ?_ | refine qQba ?_ | fail)
  refine W.mono (Ahi (k := k) (N := N) (i := i) (es := es) (A := A) (D := D) (L := L) hk hN hlt hes hA ⟨rfl, rfl, rfl, rfl, trivial⟩) ?_
  rintro ex T4 H4 ⟨rfl, rfl, hT4, h00⟩
  rw [hT4.eq]
  simp only [over]
  show W _ _
  repeat' (first | refine qS ?_ | refine qN ?_ | refine qQb ?_ | fail)
  exact ⟨hlt, rfl, h00.trans h0, rfl, rfl, by show AV.int _ _ = AV.int _ _; congr 1, trivial⟩
 ·have hin : i = N := by omega
  subst hin
  have hlt' : ¬ (i : Int) < L - 3 := by omega
  repeat' (first | refine qS ?_ | refine qN ?_ | refine qQba ?_ | fail)
  exact ⟨rfl, rfl, ⟨rfl, rfl, trivial⟩, h0⟩
theorem wP (l : List UInt8) (hm : l.length ≤ maxLen) (kind frm count source : Int) (d : List UInt8) (hdm : d.length ≤ maxLen) : ∃ H, CF 1000700 Qd 0 [.islc false false 1 (BL l), .int .i64 kind, .int .i64 frm, .int .i64 count, .int .i64 source, .islc false false 1 (BL d)] Heap.none = some (.bool true, H) := by
 suffices h : FnV (CF 1000700) Qd [.islc false false 1 (BL l), .int .i64 kind, .int .i64 frm, .int .i64 count, .int .i64 source, .islc false false 1 (BL d)] (.bool true) by
  obtain ⟨u, H, h1, h2⟩ := h
  refine ⟨H, ?_⟩
  rw [h1, dO h2]
 have hH := jX (1000700 - 1) (by omega) false false l
 have hW := Ua (1000700 - 1) (by omega)
 have hdl : (BL d).length = d.length := BL_length d
 by_cases hl1 : l.length > 19200
 ·rw [An hl1] at hH
  refine fnk (by omega) Ml rfl ?_
  unfold law18_HeadSteps
  repeat' (first | refine qS ?_ | refine qN ?_ | refine Ab hH ?_ | refine qQ ?_ | fail)
  exact ⟨Or.inr rfl, _, rfl, rfl⟩
 rw [Ba hl1] at hH
 have hl : l.length < 1000000 := by omega
 by_cases hd1 : d.length > 1280
 ·have hd1' : (d.length : Int) > 1280 := by omega
  refine fnk (by omega) Ml rfl ?_
  unfold law18_HeadSteps
  repeat' (first | refine qS ?_ | refine qN ?_ | refine Ab hH ?_ | refine Bi (n := d.length) rfl hdl rfl rfl ?_ | refine qQ ?_ | fail)
  exact ⟨Or.inr rfl, _, rfl, rfl⟩
 have hd1' : ¬ (d.length : Int) > 1280 := by omega
 obtain ⟨m, hm3, hm4⟩ : ∃ m : Int, kind % 18446744073709551616 % 4 = m ∧ (m = 0 ∨ m = 1 ∨ m = 2 ∨ m = 3) := ⟨_, rfl, by omega⟩
 have hm0 : 0 ≤ m ∧ m < 4 := by omega
 have pO := c_Do (1000700 - 1) (by omega) false l hl m hm4 frm count source false false 1 d (.inl rfl) (by omega)
 cases h : doP l m frm count source d with
 | error e =>
  rw [h] at pO
  have he := Aaf h
  have he' : (e : Int) ≠ 0 := by omega
  unfold Ly at pO
  simp only at pO
  refine fnk (by omega) Ml rfl ?_
  unfold law18_HeadSteps
  repeat' (first
   | refine qS ?_ | refine qN ?_ | refine Ab hH ?_ | refine Bi (n := d.length) rfl hdl rfl rfl ?_ | refine Ab pO ?_ | refine Ab hW ?_
   | refine Bi (n := 0) rfl rfl rfl rfl ?_ | (rw [hm3]) | refine qQ ?_ | fail)
  exact ⟨Or.inr rfl, _, rfl, rfl⟩
 | ok ios =>
  rw [h] at pO
  obtain ⟨⟨x, x', _, hO, _, io0, root, size, first, hio, hF, hnd⟩, hok, hle⟩ := Axx hl h
  unfold Ly at pO
  simp only at pO
  have hq := (Iy hl).2 ⟨hO.dev, hO.img⟩
  have hx := Sa hO.dev hO.img
  have hslot := hx.slot
  obtain ⟨g1, g2, g3⟩ := Agy hO.dev hO.img hF
  obtain ⟨N, hN⟩ : ∃ N, N = io0.length := ⟨_, rfl⟩
  have hil : ios.length = N + 3 := by rw [hio, rH, hN]
  have htk : ios.take N = iosW io0 := by
   rw [hio, Tm, Cr (by rw [Xj]; omega), Aj (by rw [Xj]; omega)]
  have hml : (ios.map IoV.av).length = ios.length := Ah _
  have hel : ∀ j, ∀ hj : j < io0.length, (ios.map IoV.av)[j]? = some (.agg [.int .i64 1, .int .i64 (((io0.map IoV.at0).getD j 0 : Nat) : Int), .islc false false 1 (BL io0[j].data)]) := by
   intro j hj
   rw [hio, Tm, Az, List.getElem?_append_left (by rw [Xj]; exact hj)]
   unfold iosW
   rw [Az, Aa hj, Ae, Az, Aa hj]
   rfl
  have hlast : ∀ j, j < 3 → (ios.map IoV.av)[N + j]? = ([flushIo, wIo (1 - x.slot) (supB (Vp x.sup root size first)), flushIo].map IoV.av)[j]? := by
   intro j hj
   rw [hio, Tm, Br, List.getElem?_append_right (by rw [Ah, Xj]; omega), Ah, Xj, show N + j - io0.length = j by omega]
  have pP := Alw (1000700 - 1) (by omega) false l hl
  rw [hq] at pP
  obtain ⟨f1, s1, hr, _⟩ := rIvF x.recs
  unfold rB stCs at pP
  simp only at pP
  rw [hr] at pP
  have pA := Rv (1000700 - 1) (by omega) false false l hl false (false && decide (N = ios.length)) 3 (ios.take N) (.inl rfl) (by rw [Ay]; omega) (fun y hy => (hok.2 y (As hy)).1)
  unfold Ny at pA
  rw [if_neg (fun h => h (Amf hO.right fun y hy => As hy)), htk] at pA
  have pV := dN (1000700 - 1) (by omega) false l hl
  have pV2 := dN (1000700 - 1) (by omega) false (Bs l (iosW io0)) (by rw [g1]; exact hl)
  rw [hq] at pV
  rw [g2] at pV2
  unfold Aev at pV pV2
  simp only at pV pV2
  rw [g3] at pV2
  have hvo := kE hO.dev hx
  generalize Bs l (iosW io0) = l2 at *
  generalize Ci l x = v at *
  have kV := Awa (1000700 - 1) (by omega) v v hvo hvo
  rw [An rfl] at kV
  obtain ⟨a2, a3, b2, b3, hva⟩ := Adq v
  have hva' : AV.agg v.cs = _ := hva
  rw [hva'] at pV pV2
  rw [hva] at kV
  have e3 : (ios.length : Int) - 3 = (N : Int) := by omega
  have he3' : (ios.map IoV.av)[(N : Int).toNat]? = some (.agg [.int .i64 2, .int .i64 0, .islc false true 0 []]) := hlast 0 (by decide)
  have he1' : (ios.map IoV.av)[((ios.length : Int) - 1).toNat]? = some (.agg [.int .i64 2, .int .i64 0, .islc false true 0 []]) := by rw [show ((ios.length : Int) - 1).toNat = N + 2 by omega]; exact hlast 2 (by decide)
  have he2' : (ios.map IoV.av)[((ios.length : Int) - 2).toNat]? = some (.agg [.int .i64 1, .int .i64 ((1 - x.slot : Nat) : Int), .islc false false 1 (BL (supB (Vp x.sup root size first)))]) := by rw [show ((ios.length : Int) - 2).toNat = N + 1 by omega]; exact hlast 1 (by decide)
  have hn3 : ¬ (ios.length : Int) < 3 := by omega
  have hsl : ((1 - x.slot : Nat) : Int) = 1 - (x.slot : Int) := by omega
  have hfz : ∀ (z : AV) (H : Heap), fz false 6 H z = z → [z, AV.islc false (false && decide (N = ios.length)) 3 (((ios.map IoV.av).drop 0).take (N - 0))].map (fz false 6 H) = [z, .islc false (false && decide (N = ios.length)) 3 ((ios.take N).map IoV.av)] := by
   intro z H hz
   rw [Cd, wE, ← Gd]
   show [fz false 6 H z, _] = _
   rw [hz]; rfl
  rw [← htk] at *
  generalize hD : (fun j => BL (io0.getD j flushIo).data) = D
  refine fnk (by omega) Ml rfl ?_
  unfold law18_HeadSteps
  repeat' (first
   | refine qS ?_ | refine qN ?_ | refine Ab hH ?_ | refine Bi (n := d.length) rfl hdl rfl rfl ?_ | refine Ab pO ?_ | refine Ab pP ?_ | refine Hn ?_ (hl := by kernel_rfl)
   | refine Bi (n := ios.length) rfl hml rfl rfl ?_ | (rw [hm3]) | (rw [e3]) | refine Cz rfl rfl (by omega) he1' rfl rfl ?_ | refine Cz rfl rfl (by omega) he2' rfl rfl ?_
   | refine Cz rfl rfl (by omega) he3' rfl rfl ?_ | refine qQa ?_ | fail)
  refine W.mono (Agg (k := 1000700 - 1) (N := N) (es := ios.map IoV.av) (A := fun j => (io0.map IoV.at0).getD j 0) (D := D) (L := (ios.length : Int)) (by omega) (by omega) (by omega) (fun j hj => ?_) (fun a b hab hb => ?_) (fun a ha => ?_) ⟨rfl, rfl, rfl, trivial⟩) ?_
  ·have hj2 : j < io0.length := by omega
   have hg : io0.getD j flushIo = io0[j] := by rw [Ae, Aa hj2]; rfl
   rw [hel j hj2, ← hD]
   show some _ = some (AV.agg [_, _, .islc false false 1 (BL (io0.getD j flushIo).data)])
   rw [hg]
  ·have hb' : b < (io0.map IoV.at0).length := by rw [Ah]; omega
   show (io0.map IoV.at0).getD a 0 ≠ (io0.map IoV.at0).getD b 0
   rw [Ae, Ae, Aa (by omega), Aa hb']
   intro he
   have := cV hnd (by omega) hb' (i := a) (j := b) he
   omega
  ·have ha' : a < io0.length := by omega
   show 2 ≤ (io0.map IoV.at0).getD a 0
   rw [Ae, Az, Aa ha']
   exact (hF.fit _ (Bx ha')).1
  rintro ex T2 H2 ⟨rfl, rfl, hT2, h00⟩
  rw [Has.eq (T := T2) (ps := [(13, _), (17, _), (0, _)]) ⟨hT2.1, hT2.2.1, h00, trivial⟩]
  simp only [over]
  show W _ _
  repeat' (first
   | refine qS ?_ | refine qN ?_ | refine Ab pV ?_ | refine Ab pV2 ?_ | refine Ab kV ?_ | refine Ab hW ?_ | refine Hn ?_ (hl := by kernel_rfl) | (rw [e3])
   | refine Dx (n := ios.length) (a := 0) (b := N) rfl (.inl rfl) hml rfl (Fi rfl) (by omega) (by omega) rfl rfl ?_ | refine Ab pA ?_ rfl (by exact hfz _ _ rfl) | refine qQ ?_
   | fail)
  exact ⟨Or.inr rfl, _, rfl, rfl⟩
end Go.Proofs.YtkpndfkpdnknkaaGreat

