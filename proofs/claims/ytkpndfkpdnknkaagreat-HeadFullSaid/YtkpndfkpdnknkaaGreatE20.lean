import Derived.Test.YtkpndfkpdnknkaaGreatF20
set_option linter.unusedSimpArgs false
set_option linter.unusedVariables false
set_option maxRecDepth 10000
set_option maxHeartbeats 16000000
namespace Go.Proofs.YtkpndfkpdnknkaaGreat
open Go.AI
def sec1 (c : UInt8) : List UInt8 := c :: List.replicate 63 0
theorem Ayl {n : Int} (h : (Lit.int .u8 n).wf = true) : ∃ c : UInt8, n = (c.toNat : Int) := by
 have e1 : IntKind.u8.min = 0 := rfl
 have e2 : IntKind.u8.max = 255 := rfl
 simp only [Lit.wf, Co, Dg, e1, e2] at h
 have e3 : (UInt8.ofNat n.toNat).toNat = n.toNat % 256 := rfl
 exact ⟨UInt8.ofNat n.toNat, by rw [e3]; omega⟩
theorem bA (c : UInt8) : (sec1 c).length = 64 := rfl
theorem vL {H : Heap} {g : Nat} {b : List UInt8} (hb : b.length = 64) (h : H 0 = ⟨g, false, .row 1 (BL b)⟩) : fz false 6 H (.slc 0 g 64 1 0 64 none) = .islc true false 1 (BL b) := by
 have hl : (BL b).length = 64 := by rw [BL_length]; exact hb
 have e : (BL b).map (fz false 5 H) = BL b := by
  unfold BL
  rw [Fh]
  exact Av fun _ _ => rfl
 rw [Oi (Ev h (by omega)) (by omega), Cd, Aj (by omega), e]
 rfl
attribute [local irreducible] aops Bp Cs Df aop W WO
theorem Ajw {k n : Nat} {b : List UInt8} {f0 : Bool} {l : List UInt8} {x : Img} {T : Tmps} {H : Heap} (hk : 1000220 ≤ k) (h8 : 8 ≤ n ∧ n ≤ 37) (hb : b.length = 64) (hF : Fill l x n 0 b) (h0 : H 0 = ⟨1, false, .row 1 (BL b)⟩)
  (hT : Has T [(5, .islc false f0 1 (BL l)), (10, .slc 0 1 64 1 0 64 none), (11, .int .i64 0)]) :
  W (Bp (CF k) noX 0 k (.loop Wc) T H) (fun ex T' H' => ex = .exit 0 ∧ H' 0 = H 0 ∧ ∃ (i : Nat) (f : Bool) (l' : List UInt8) (x' : Img), 1 ≤ i ∧ i < 40 ∧ Fill l' x' n i b ∧ Has T' [(5, .islc false f 1 (BL l')), (10, .slc 0 1 64 1 0 64 none), (11, .int .i64 (i : Nat))]) := by
 refine Fa 40 (fun i T' H' => H' 0 = H 0 ∧ ∃ (f : Bool) (l' : List UInt8) (x' : Img), Fill l' x' n i b ∧ Has T' [(5, .islc false f 1 (BL l')), (10, .slc 0 1 64 1 0 64 none), (11, .int .i64 (i : Nat))]) ⟨rfl, f0, l, x, hF, hT⟩ (by omega) ?_
 rintro i T2 H2 hi ⟨g0, f, l', x', hF, hT2⟩
 have g0' := g0.trans h0
 rw [hT2.eq]
 simp only [over]
 unfold Wc
 by_cases hlt : i < 40
 ·have hl := hF.bare.dev.1
  have pW := Xp k (by omega) f l' hl i true false 1 b (.inl rfl) (by omega)
  rcases hF.next hb hlt with ⟨h9, hne⟩ | ⟨h9, hfr⟩ | ⟨ios, x2, hw, hok, hst, hF2⟩
  ·rw [h9] at pW
   unfold Ly at pW
   simp only at pW
   repeat' (first | refine qS ?_ | refine qN ?_ | refine Ab pW ?_ rfl (by exact Bk (fun z => [_, _, z]) (vL hb (by exact g0'))) | refine Bi (n := 0) rfl rfl rfl rfl ?_ | refine qQb ?_ | fail)
   exact ⟨rfl, g0, i, f, l', x', by omega, hlt, hF, rfl, rfl, rfl, trivial⟩
  ·have hne : i ≠ 0 := fun h => by subst h; have := hF.first h8.1; omega
   rw [h9] at pW
   unfold Ly at pW
   simp only at pW
   repeat' (first | refine qS ?_ | refine qN ?_ | refine Ab pW ?_ rfl (by exact Bk (fun z => [_, _, z]) (vL hb (by exact g0'))) | refine Bi (n := 0) rfl rfl rfl rfl ?_ | refine qQb ?_ | fail)
   exact ⟨rfl, g0, i, f, l', x', by omega, hlt, hF, rfl, rfl, rfl, trivial⟩
  ·rw [hw] at pW
   unfold Ly at pW
   simp only at pW
   have pA := Rv k (by omega) false f l' hl false false 3 ios (.inl rfl) hok.1 (fun y hy => (hok.2 y hy).1)
   unfold Ny at pA
   rw [if_neg (fun h => h hst)] at pA
   repeat' (first | refine qS ?_ | refine qN ?_ | refine Ab pW ?_ rfl (by exact Bk (fun z => [_, _, z]) (vL hb (by exact g0'))) | refine Ab pA ?_ | refine qQb ?_ | fail)
   exact ⟨hlt, g0, false, _, x2, hF2, rfl, rfl, by show AV.int _ _ = AV.int _ _; congr 1, trivial⟩
 ·exfalso
  obtain rfl : i = 40 := by omega
  have := hF.few (by omega)
  omega
theorem Aje {k n i : Nat} {b : List UInt8} {f : Bool} {l : List UInt8} {x : Img} {T : Tmps} {H : Heap} (hk : 1000220 ≤ k) (hb : b.length = 64) (hi : i < 40) (hF : Fill l x n i b) (h0 : H 0 = ⟨1, false, .row 1 (BL b)⟩)
  (hT : Has T [(5, .islc false f 1 (BL l)), (10, .slc 0 1 64 1 0 64 none), (11, .int .i64 (i : Nat)), (16, .int .i64 0)]) :
  W (Bp (CF k) noX 0 k (.loop Wf) T H) (fun ex T' H' => ex = .exit 2 ∧ H' 0 = H 0 ∧ Has T' [(5, .islc false f 1 (BL l)), (10, .slc 0 1 64 1 0 64 none), (11, .int .i64 (i : Nat))]) := by
 refine Fa i (fun j T' H' => H' 0 = H 0 ∧ Has T' [(5, .islc false f 1 (BL l)), (10, .slc 0 1 64 1 0 64 none), (11, .int .i64 (i : Nat)), (16, .int .i64 (j : Nat))]) ⟨rfl, hT⟩ (by omega) ?_
 rintro j T2 H2 hj ⟨g0, hT2⟩
 have g0' := g0.trans h0
 rw [hT2.eq]
 simp only [over]
 unfold Wf
 by_cases hlt : j < i
 ·have hlt' : (j : Int) < i := by omega
  have pR := Qk k (by omega) f l hF.bare.dev.1 j 1
  rw [hF.read (by omega) hlt] at pR
  unfold Ue at pR
  simp only at pR
  obtain ⟨uf, us, hue, hu1⟩ := Up b
  rw [hue] at pR
  have pB := Tr k (by omega) false uf true false us 1 b b (by omega) (by omega) hu1 (.inl rfl)
  rw [An rfl] at pB
  repeat' (first | refine qS ?_ | refine qN ?_ | refine Ab pR ?_ | refine Ab pB ?_ rfl (by exact Bk (fun z => [_, z]) (vL hb (by exact g0'))) | refine qQb ?_ | fail)
  exact ⟨hlt, g0, rfl, rfl, rfl, by show AV.int _ _ = AV.int _ _; congr 1, trivial⟩
 ·have hin : j = i := by omega
  subst hin
  repeat' (first | refine qS ?_ | refine qN ?_ | refine qQb ?_ | fail)
  exact ⟨rfl, g0, rfl, rfl, rfl, trivial⟩
theorem Abg (blocks : Int) (c : UInt8) : ∃ H, CF 1000700 Ra 0 [.int .i64 blocks, .int .u8 c.toNat] Heap.none = some (.bool true, H) := by
 suffices h : FnV (CF 1000700) Ra [.int .i64 blocks, .int .u8 c.toNat] (.bool true) by
  obtain ⟨u, H, h1, h2⟩ := h
  refine ⟨H, ?_⟩
  rw [h1, dO h2]
 have hW := Ua (1000700 - 1) (by omega)
 obtain ⟨n, hn⟩ : ∃ n : Nat, 8 + blocks % 18446744073709551616 % 30 = n := ⟨(8 + blocks % 18446744073709551616 % 30).toNat, by omega⟩
 have h8 : 8 ≤ n ∧ n ≤ 37 := by omega
 have hl0 : (newP n).length < 1000000 := by
  obtain ⟨x0, hB0, _⟩ := vQ (n := n) (by omega) (by omega)
  exact hB0.dev.1
 obtain ⟨rs, x1, f1, hok, hst, hF⟩ := App h8.1 (by omega) (sec1 c)
 have pN := Asn (1000700 - 1) (by omega) n (by omega)
 have pZ := Rb (1000700 - 1) (by omega) false (newP n) hl0 40
 rw [f1] at pZ
 unfold Ly at pZ
 simp only at pZ
 have pA := Rv (1000700 - 1) (by omega) false false (newP n) hl0 false false 3 rs (.inl rfl) hok.1 (fun y hy => (hok.2 y hy).1)
 unfold Ny at pA
 rw [if_neg (fun h => h hst)] at pA
 generalize Bs (newP n) rs = l1 at *
 generalize newP n = l0 at *
 refine fnk (by omega) nA rfl ?_
 unfold law18_HeadFull
 repeat' (first | refine qS ?_ | refine qN ?_ | refine Ab pN ?_ | refine Ab pZ ?_ | refine Ab pA ?_ | refine Ry 64 rfl rfl rfl (by decide) rfl rfl rfl ?_ | (rw [hn]) | refine qQ ?_ | fail)
 refine W.mono (Ajw (k := 1000700 - 1) (n := n) (b := sec1 c) (f0 := false) (l := l1) (x := x1) (by omega) h8 (bA c) hF rfl ⟨rfl, rfl, rfl, trivial⟩) ?_
 rintro ex T2 H2 ⟨rfl, g0, i, f, l2, x2, hi1, hi40, hF2, hT2⟩
 have g0' : H2 0 = ⟨1, false, .row 1 (BL (sec1 c))⟩ := g0.trans rfl
 rw [hT2.eq]
 simp only [over]
 show W _ _
 repeat' (first | refine qS ?_ | refine qN ?_ | refine qQ ?_ | fail)
 refine W.mono (Aje (k := 1000700 - 1) (n := n) (i := i) (b := sec1 c) (f := f) (l := l2) (x := x2) (by omega) (bA c) hi40 hF2 g0' ⟨rfl, rfl, rfl, rfl, trivial⟩) ?_
 rintro ex T4 H4 ⟨rfl, k0, hT4⟩
 have k0' := k0.trans g0'
 rw [hT4.eq]
 simp only [over]
 show W _ _
 obtain ⟨r1, r2, r3, e1, ok1, s1, hl3, e2, ok2, s2, hl4, e3⟩ := hF2.again (by omega) h8.1 (bA c)
 have hl2 := hF2.bare.dev.1
 have q1 := Rb (1000700 - 1) (by omega) f l2 hl2 0
 rw [e1] at q1
 have q2 := Rv (1000700 - 1) (by omega) false f l2 hl2 false false 3 r1 (.inl rfl) ok1.1 (fun y hy => (ok1.2 y hy).1)
 unfold Ny at q2
 rw [if_neg (fun h => h s1)] at q2
 have q3 := Rb (1000700 - 1) (by omega) false (Bs l2 r1) hl3 40
 rw [e2] at q3
 have q4 := Rv (1000700 - 1) (by omega) false false (Bs l2 r1) hl3 false false 3 r2 (.inl rfl) ok2.1 (fun y hy => (ok2.2 y hy).1)
 unfold Ny at q4
 rw [if_neg (fun h => h s2)] at q4
 have q5 := Xp (1000700 - 1) (by omega) false (Bs (Bs l2 r1) r2) hl4 0 true false 1 (sec1 c) (.inl rfl) (by rw [bA]; omega)
 rw [e3] at q5
 unfold Ly at q1 q3 q5
 simp only at q1 q3 q5
 generalize Bs (Bs l2 r1) r2 = l4 at *
 generalize Bs l2 r1 = l3 at *
 have hi1' : (i : Int) ≥ 1 := by omega
 have hi40' : (i : Int) < 40 := by omega
 repeat' (first
  | refine qS ?_ | refine qN ?_ | refine Ab q1 ?_ | refine Ab q2 ?_ | refine Ab q3 ?_ | refine Ab q4 ?_
  | refine Ab q5 ?_ rfl (by exact Bk (fun z => [_, _, z]) (vL (bA c) (by exact k0'))) | refine Ab hW ?_ | refine qQ ?_ | fail)
 exact ⟨Or.inr rfl, _, rfl, rfl⟩
end Go.Proofs.YtkpndfkpdnknkaaGreat

