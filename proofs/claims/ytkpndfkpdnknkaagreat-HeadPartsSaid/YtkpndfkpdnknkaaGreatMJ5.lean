/- Lemmas. -/
import Derived.Test.YtkpndfkpdnknkaaGreatMJ4
import Derived.Test.YtkpndfkpdnknkaaGreatA31
import Derived.Test.YtkpndfkpdnknkaaGreatG4
import Derived.Test.YtkpndfkpdnknkaaGreatMM
set_option linter.unusedSimpArgs false
set_option linter.unusedVariables false
set_option maxRecDepth 10000
set_option maxHeartbeats 16000000
namespace Go.Proofs.YtkpndfkpdnknkaaGreat
open Go.AI
attribute [local irreducible] aops Bp Cs Df aop W WO
theorem Apb (k : Nat) (hk : 1000070 ≤ k) (f : Bool) (l : List UInt8) (hd : Dev l) (root : Nat) {w : WS} (h : goP l root = some w) : FnV (CF k) aZ [.islc false f 1 (BL l), .int .i64 root] (.tup [.iptr false (Gr false f l w), .int .i64 0]) := by
 have hck := Lq (k - 1) (by omega) false f l hd
 have hgo := mR (k - 1) (by omega) f l hd root
 rw [h] at hgo
 obtain ⟨f2, s2, hb, _⟩ := Kr w.nodes
 unfold goAv Gr at hgo
 unfold Gr
 simp only at hgo
 rw [hb] at hgo ⊢
 refine fnk (by omega) rN rfl ?_
 unfold Zh
 repeat' (first | refine qS ?_ | refine Ab hgo ?_ | refine Bf (hck) (fun _ => ?_) (fun _ => ?_) | refine Ab (hck) ?_ | refine qQb ?_ | refine Af (fun _ => ?_) (fun _ => ?_))
 exact ⟨Or.inr rfl, _, rfl, rfl⟩
theorem Avw (k : Nat) (hk : 1000080 ≤ k) (f : Bool) (l : List UInt8) (hd : Dev l) (root : Nat) {w : WS} (h : goP l root = some w) : FnV (CF k) uN [.islc false f 1 (BL l), .int .i64 root] (.tup [.islc false false 1 (NL w.m), .int .i64 0]) := by
 have hck := Apb (k - 1) (by omega) f l hd root h
 obtain ⟨f2, s2, hb, _⟩ := Kr w.nodes
 unfold Gr at hck
 rw [hb] at hck
 refine fnk (by omega) Aiu rfl ?_
 unfold sV
 repeat' (first | refine qS ?_ | refine Em ?_ | refine Bf (hck) (fun _ => ?_) (fun _ => ?_) | refine Ab (hck) ?_ | refine qQb ?_ | refine Af (fun _ => ?_) (fun _ => ?_))
 exact ⟨Or.inr rfl, _, rfl, rfl⟩
theorem Amv (k : Nat) (hk : 1 ≤ k) (n : Nat) (b : Nat) : FnV (CF k) Uk [nav b, .iptr true [.int .i64 n]] (.bool (decide (b ≠ 0 ∧ (b < 2 ∨ n ≤ b)))) := by
 unfold nav
 refine fnk (by omega) uF rfl ?_
 unfold Ym
 repeat' (first | refine qS ?_ | refine qN ?_ | refine qQb ?_ | refine Af (fun _ => ?_) (fun _ => ?_))
 all_goals
  refine ⟨Or.inr rfl, _, rfl, ?_⟩
  simp only [cmpP] at *
  show AV.bool _ = AV.bool _
  congr 1
  first
   | exact (An (by omega)).symm
   | exact (Ba (by omega)).symm
theorem Abw (k : Nat) (hk : 1000030 ≤ k) (t f : Bool) (m : List Nat) (n : Nat) (hm : m.length = 512) (hr : ∀ a ∈ m, a = 0 ∨ 2 ≤ a ∧ a < n) : FnV (CF k) jU [.islc t f 1 (NL m), .int .i64 n] (.int .i64 0) := by
 have hc := Jb (k - 1) (by omega) t f m Uk [.iptr true [.int .i64 n]] (fun b => decide (b ≠ 0 ∧ (b < 2 ∨ n ≤ b))) (by omega) (fun _ => rfl) (fun _ _ => rfl) (fun i hi => Amv (k - 3) (by omega) n _)
 have hany : (m.any fun b => decide (b ≠ 0 ∧ (b < 2 ∨ n ≤ b))) = false := by
  rw [Wx]
  intro a ha
  have := hr a ha
  simp; omega
 rw [hany] at hc
 have hml : (NL m).length = 512 := by rw [Cj, hm]
 refine fnk (by omega) Aaz rfl ?_
 unfold fJ
 repeat' (first | refine qS ?_ | refine Hn ?_ (hl := by kernel_rfl) | refine Bi (n := 512) rfl hml rfl rfl ?_ | refine Ab hc ?_ | refine qQb ?_ | fail)
 exact ⟨Or.inr rfl, _, rfl, rfl⟩
def Aho (fs : List Nat) (n : Nat) : AV := if fs.length < n then .tup [.islc false true 0 [], .islc false true 0 [], .int .i64 9] else .tup [.islc false false 1 (NL (fs.take n)), .islc false false 1 (NL (fs.drop n)), .int .i64 0]
theorem Axm (k : Nat) (hk : 1000000 ≤ k) (t f : Bool) (fs : List Nat) (hl : fs.length < 1000000) (n : Nat) (hn : n < 1000000) : FnV (CF k) iE [.islc t f 1 (NL fs), .int .i64 n] (Aho fs n) := by
 have hml : (NL fs).length = fs.length := Cj fs
 refine fnk (by omega) Aai rfl ?_
 unfold gC Aho
 by_cases h1 : fs.length < n
 ·rw [if_pos h1]
  have h1' : (n : Int) > (fs.length : Int) := by omega
  repeat' (first | refine qS ?_ | refine Bi (n := fs.length) rfl hml rfl rfl ?_ | refine qQb ?_ | fail)
  exact ⟨Or.inr rfl, _, rfl, rfl⟩
 ·rw [if_neg h1]
  have h1' : ¬ (n : Int) > (fs.length : Int) := by omega
  have e1 : ((NL fs).drop 0).take (n - 0) = NL (fs.take n) := by rw [Cd, wE]; unfold NL; rw [Gd]
  have e2 : ((NL fs).drop n).take (fs.length - n) = NL (fs.drop n) := by rw [Aj (by rw [Bl, hml]; exact Bc _)]; unfold NL; rw [Gt]
  have c1 := jR (k - 1) (by omega) t (f && decide (n = fs.length)) (NL (fs.take n)) (Me _) (fun n H => aW true n H _) (by rw [Cj, Ay]; omega)
  have c2 := jR (k - 1) (by omega) t (f && decide (fs.length = fs.length)) (NL (fs.drop n)) (Me _) (fun n H => aW true n H _) (by rw [Cj, Bl]; omega)
  have z1 : ∀ H : Heap, [AV.islc t (f && decide (n = fs.length)) 1 (((NL fs).drop 0).take (n - 0))].map (fz false 6 H) = [.islc t (f && decide (n = fs.length)) 1 (NL (fs.take n))] := fun H => by rw [e1]; rfl
  have z2 : ∀ H : Heap, [AV.islc t (f && decide (fs.length = fs.length)) 1 (((NL fs).drop n).take (fs.length - n))].map (fz false 6 H) = [.islc t (f && decide (fs.length = fs.length)) 1 (NL (fs.drop n))] := fun H => by rw [e2]; rfl
  repeat' (first
   | refine qS ?_ | refine Bi (n := fs.length) rfl hml rfl rfl ?_
   | refine Dx (n := fs.length) (a := 0) (b := n) rfl (.inl rfl) hml rfl (Fi rfl) (by omega) (by omega) rfl rfl ?_
   | refine Dx (n := fs.length) (a := n) (b := fs.length) rfl (.inl rfl) hml (Fi rfl) rfl (by omega) (Bc _) rfl rfl ?_ | refine Ab c1 ?_ rfl (by exact z1 _)
   | refine Ab c2 ?_ rfl (by exact z2 _) | refine qQb ?_ | fail)
  exact ⟨Or.inr rfl, _, rfl, rfl⟩
def Sy (frm count of : Int) : Prop := 0 ≤ frm ∧ 0 ≤ count ∧ count ≤ of ∧ frm ≤ of - count
instance (a b c : Int) : Decidable (Sy a b c) := by unfold Sy; infer_instance
theorem Aqq (k : Nat) (hk : 1 ≤ k) (frm count : Int) (of : Nat) (ho : of < 1000000) : FnV (CF k) bJ [.int .i64 frm, .int .i64 count, .int .i64 of] (.bool (decide (Sy frm count of))) := by
 refine fnk (by omega) uK rfl ?_
 unfold Ys Sy
 repeat' (first | refine qS ?_ | refine qN ?_ | refine qQb ?_ | refine Af (fun _ => ?_) (fun _ => ?_))
 all_goals
  refine ⟨Or.inr rfl, _, rfl, ?_⟩
  simp only [cmpP] at *
  show AV.bool _ = AV.bool _
  congr 1
  first
   | exact (An (by omega)).symm
   | exact (Ba (by omega)).symm
def mayE (frm count least size : Int) : Nat := if frm < 0 ∨ count < least then 1 else if ¬ Sy frm count size then 3 else 0
theorem Agi (k : Nat) (hk : 2 ≤ k) (frm count least : Int) (size : Nat) (ho : size < 1000000) : FnV (CF k) vK [.int .i64 frm, .int .i64 count, .int .i64 least, .int .i64 size] (.int .i64 (mayE frm count least size)) := by
 have hw := Aqq (k - 1) (by omega) frm count size ho
 refine fnk (by omega) Ajy rfl ?_
 unfold uX mayE
 by_cases h1 : frm < 0
 ·rw [if_pos (.inl h1)]
  repeat' (first | refine qS ?_ | refine qN ?_ | refine qQb ?_ | fail)
  exact ⟨Or.inr rfl, _, rfl, rfl⟩
 by_cases h2 : count < least
 ·rw [if_pos (.inr h2)]
  repeat' (first | refine qS ?_ | refine qN ?_ | refine qQb ?_ | fail)
  exact ⟨Or.inr rfl, _, rfl, rfl⟩
 rw [if_neg (fun h => h.elim h1 h2)]
 by_cases h3 : Sy frm count size
 ·rw [An h3] at hw
  rw [if_neg (fun h => h h3)]
  repeat' (first | refine qS ?_ | refine qN ?_ | refine Ab hw ?_ | refine qQb ?_ | fail)
  exact ⟨Or.inr rfl, _, rfl, rfl⟩
 ·rw [Ba h3] at hw
  rw [if_pos h3]
  repeat' (first | refine qS ?_ | refine qN ?_ | refine Ab hw ?_ | refine qQb ?_ | fail)
  exact ⟨Or.inr rfl, _, rfl, rfl⟩
theorem Atn (k : Nat) (hk : 3 ≤ k) (t f : Bool) (s : Nat) (frm : Int) (d : List UInt8) (size : Nat) (ho : size < 1000000) (hdl : d.length < 1000000000) : FnV (CF k) jD [.int .i64 frm, .islc t f s (BL d), .int .i64 size] (if d.length % 64 ≠ 0 then .tup [.int .i64 0, .int .i64 1] else .tup [.int .i64 (d.length / 64 : Nat), .int .i64 (mayE frm (d.length / 64 : Nat) 1 size)]) := by
 have hm := Agi (k - 1) (by omega) frm (d.length / 64 : Nat) 1 size ho
 have hml : (BL d).length = d.length := by simp
 have e1 : (d.length : Int) / 64 = ((d.length / 64 : Nat) : Int) := by omega
 refine fnk (by omega) Abt rfl ?_
 unfold fF
 by_cases h1 : d.length % 64 = 0
 ·rw [if_neg (fun h => h h1)]
  have h1' : (d.length : Int) % 64 = 0 := by omega
  repeat' (first | refine qS ?_ | refine Bi (n := d.length) rfl hml rfl rfl ?_ | (rw [e1]) | refine Ab hm ?_ | refine qQ ?_ | fail)
  exact ⟨Or.inr rfl, _, rfl, rfl⟩
 ·rw [if_pos h1]
  have h1' : (d.length : Int) % 64 ≠ 0 := by omega
  repeat' (first | refine qS ?_ | refine Bi (n := d.length) rfl hml rfl rfl ?_ | refine qQ ?_ | fail)
  exact ⟨Or.inr rfl, _, rfl, rfl⟩
theorem Aik {k : Nat} {H : Heap} {T : Tmps} {t f t' f' : Bool} {a b : List Nat} (ha : a.length < 1000000) (hl : a.length = b.length) (hk : 1000000 ≤ k)
  (hT : Has T [(0, .islc t f 1 (NL a)), (1, .islc t' f' 1 (NL b)), (12, .int .i64 a.length), (13, .int .i64 0)]) :
  W (Bp (CF k) noX 0 k (.loop Mv) T H) (fun ex T' H' => (ex = .exit 0 ∧ a = b) ∨ (ex = .ret ∧ T' 4 = .bool false ∧ a ≠ b)) := by
 refine Fa a.length (fun i T' H' => a.take i = b.take i ∧ Has T' [(0, .islc t f 1 (NL a)), (1, .islc t' f' 1 (NL b)), (12, .int .i64 a.length), (13, .int .i64 (i : Nat))]) ⟨rfl, hT⟩ (by omega) ?_
 rintro i T H2 hi ⟨he, hT⟩
 rw [hT.eq]
 simp only [over]
 unfold Mv
 by_cases hlt : i < a.length
 ·have hbl : i < b.length := by omega
  obtain ⟨x, hx⟩ : ∃ x, x = a[i] := ⟨_, rfl⟩
  obtain ⟨y, hy⟩ : ∃ y, y = b[i] := ⟨_, rfl⟩
  have hst : a.take (i + 1) = b.take (i + 1) ↔ x = y := by
   rw [Au hlt, Au hbl, ← hx, ← hy, he]
   simp
  have hex : (NL a)[(i : Int).toNat]? = some (.int .i64 (x : Nat)) := by
   rw [Ax]; unfold NL; rw [Az, Aa hlt, ← hx]; rfl
  have hey : (NL b)[(i : Int).toNat]? = some (.int .i64 (y : Nat)) := by
   rw [Ax]; unfold NL; rw [Az, Aa hbl, ← hy]; rfl
  by_cases hxy : x = y
  ·have hxy' : (x : Int) = y := by omega
   repeat' (first | refine qS ?_ | refine Cz rfl rfl (by omega) hex rfl rfl ?_ | refine Cz rfl rfl (by omega) hey rfl rfl ?_ | refine qQba ?_ | fail)
   exact ⟨hlt, hst.2 hxy, rfl, rfl, rfl, by show AV.int _ _ = AV.int _ _; congr 1, trivial⟩
  ·have hxy' : (x : Int) ≠ y := by omega
   repeat' (first | refine qS ?_ | refine Cz rfl rfl (by omega) hex rfl rfl ?_ | refine Cz rfl rfl (by omega) hey rfl rfl ?_ | refine qQba ?_ | fail)
   exact .inr ⟨rfl, rfl, fun h => hxy (hst.1 (by rw [h]))⟩
 ·skip
  repeat' (first | refine qQb ?_ | fail)
  have h1 := Aj (l := a) (i := i) (by omega)
  have h2 := Aj (l := b) (i := i) (by omega)
  exact .inl ⟨rfl, by rw [← h1, ← h2]; exact he⟩
theorem Acd (k : Nat) (hk : 1000001 ≤ k) (t f t' f' : Bool) (a b : List Nat) (ha : a.length < 1000000) (hl : a.length = b.length) : FnV (CF k) Nf [.islc t f 1 (NL a), .islc t' f' 1 (NL b)] (.bool (decide (a = b))) := by
 have hma : (NL a).length = a.length := Cj a
 have hmb : (NL b).length = a.length := by rw [Cj, hl]
 refine fnk (by omega) Vm rfl ?_
 unfold slices_Equal___int_int_
 repeat' (first | refine qS ?_ | refine Bi (n := a.length) rfl hma rfl rfl ?_ | refine Bi (n := a.length) rfl hmb rfl rfl ?_ | refine qQb ?_ | fail)
 refine W.mono (Aik (k := k - 1) (a := a) (b := b) (t := t) (f := f) (t' := t') (f' := f') ha hl (by omega) ⟨rfl, rfl, rfl, rfl, trivial⟩) ?_
 rintro ex T2 H2 (⟨rfl, he⟩ | ⟨rfl, h4, he⟩)
 ·rw [An he]
  show W _ _
  repeat' (first | refine qQb ?_ | refine Af (fun _ => ?_) (fun _ => ?_))
  exact ⟨Or.inr rfl, _, rfl, rfl⟩
 ·rw [Ba he]
  refine ⟨Or.inr rfl, .bool false, ?_, rfl⟩
  show Hu T2 H2 [.tmp 4] = _
  simp only [Hu, ares, Rn, Ahl, h4]; rfl
end Go.Proofs.YtkpndfkpdnknkaaGreat
set_option maxRecDepth 10000
set_option maxHeartbeats 16000000
namespace Go.AI
section
variable {cf : Dh} {xf : ExtF} {base : Nat} {T : Tmps} {H : Heap} {QO : Tmps → Heap → Prop} {log : List FP} {g : Option (Nat × Bool)} {un : List Nat} {r : List SOper} {d : Nat}
theorem Aus {site gn j v j2 g2 v2 off len s : Nat} {ro : Bool} {x y : SArg} {es es2 m : List AV} {cap2 : Option Nat} (hx : x.ev T = .slc j gn v s 0 v .none) (hy : y.ev T = .slc j2 g2 v2 s off len cap2) (h2 : H j2 = ⟨g2, ro, .row s es2⟩) (hv2 : es2.length = v2) (ho : off + len ≤ v2) (hm : (es2.drop off).take len = m) (hr : H j = ⟨gn, false, .row s es⟩) (hv : es.length = v) (hm0 : Ix m = false) (he : Cf m = true) (hb : v + m.length ≤ 68719476736)
  (hw : Ai T g = some true) (hl : un = [])
  (h : ∀ fp, WO (aops cf xf base r (log ++ [fp]) (T.upd d (.slc j gn (v + m.length) s 0 (v + m.length) .none)) (H.upd j ⟨gn, false, .row s (es ++ m)⟩)) QO) :
  WO (aops cf xf base (⟨some d, .app site s x y, g, un⟩ :: r) log T H) QO := by
 subst hl
 refine Bg (v := .slc j gn (v + m.length) s 0 (v + m.length) .none) (H' := H.upd j ⟨gn, false, .row s (es ++ m)⟩) (fp := ⟨[j2] ++ [] ++ [j], [] ++ [j], false⟩) hw ?_ rfl (h _)
 have e1 : Cy H s (.slc j2 g2 v2 s off len cap2) = some (m, [j2]) := by
  simp only [Cy, Ev h2 hv2]
  rw [if_pos ⟨trivial, ho⟩, hm]
 have e2 : Fp H m = some (m, H, []) := by
  cases m with
  | nil => cases hm0
  | cons a m => simp [Fp, he]
 simp only [aop, hx, hy, Ka, e1, e2, Ad, Ac]
 simp only [Dw, hm0, Bd, Cp, Kp hr hv]
 rw [if_pos ⟨trivial, by omega, by simpa [Iv] using hb⟩]
 rw [if_neg (by cases m with | nil => cases hm0 | cons a m => simp)]
 rw [if_pos ⟨trivial, trivial⟩, Hl hr]
 rfl
end
end Go.AI
namespace Go.Proofs.YtkpndfkpdnknkaaGreat
open Go.AI
attribute [local irreducible] aops Bp Cs Df aop W WO
theorem Yh (k : Nat) (hk : 1000040 ≤ k) (v : Nat) (ps : List Nat) (h8 : ps.length = 8) (hok : Nod.ok ⟨v, ps⟩) : FnV (CF k) kG [Nod.av ⟨v, ps⟩] (.tup [.islc false false 1 (BL (nodB ⟨v, ps⟩)), .int .i64 0]) := by
 match ps, h8 with
 | [a1, a2, a3, a4, a5, a6, a7, a8], _ =>
  have hc := kI (k - 1) (by omega) ⟨v, [a1, a2, a3, a4, a5, a6, a7, a8]⟩ rfl
  rw [if_pos hok] at hc
  have hl := eM (k - 1) (by omega)
  have hm := jH (k - 1) (by omega) true false mN sN [(v : Int), a1, a2, a3, a4, a5, a6, a7, a8] rfl rfl (by decide) (by decide) (by simp)
  have hb : nodB ⟨v, [a1, a2, a3, a4, a5, a6, a7, a8]⟩ = Nx mN sN [(v : Int), a1, a2, a3, a4, a5, a6, a7, a8] := rfl
  unfold Nod.av NL at hc ⊢
  simp only [Bb, Lj] at hc ⊢
  rw [hb]
  refine fnk (by omega) Abm rfl ?_
  unfold fX
  repeat' (first
   | refine qS ?_ | refine Ab hc ?_ | refine Ab hl ?_ | refine Ab hm ?_ | refine Xl rfl rfl rfl rfl (by exact Be rfl) rfl rfl rfl ?_
   | refine Gw (hl := by kernel_rfl) ?_
   | refine Aus (m := [.int .i64 a1, .int .i64 a2, .int .i64 a3, .int .i64 a4, .int .i64 a5, .int .i64 a6, .int .i64 a7, .int .i64 a8]) rfl rfl rfl rfl (by exact Be rfl) rfl rfl rfl rfl rfl (by exact Be rfl) rfl rfl (fun _ => ?_)
   | refine qQb ?_ | refine Af (fun _ => ?_) (fun _ => ?_) | refine Bu fun _ => ?_)
  exact ⟨Or.inr rfl, _, rfl, rfl⟩
end Go.Proofs.YtkpndfkpdnknkaaGreat
set_option maxRecDepth 10000
set_option maxHeartbeats 16000000
namespace Go.Proofs.YtkpndfkpdnknkaaGreat
open Go.AI
def mkCs (img old mv fr : AV) (n : Nat) : List AV := [img, .int .i64 n, old, mv, .slc 1 1 64 1 0 64 none, .slc 2 1 8 1 0 8 none, .slc 3 1 1 1 0 1 none, .slc 13 1 64 1 0 64 none, .slc 14 1 8 1 0 8 none, .slc 15 1 1 1 0 1 none, fr]
structure LK (H : Heap) (img old mv fr : AV) (n : Nat) (w0 w1 w2 i0 i1 i2 : List Nat) : Prop where
 h0 : H 0 = ⟨1, false, .row 11 [.agg (mkCs img old mv fr n)]⟩
 h1 : H 1 = ⟨1, false, .row 1 (NL w0)⟩
 h2 : H 2 = ⟨1, false, .row 1 (NL w1)⟩
 h3 : H 3 = ⟨1, false, .row 1 (NL w2)⟩
 h13 : H 13 = ⟨1, false, .row 1 (NL i0)⟩
 h14 : H 14 = ⟨1, false, .row 1 (NL i1)⟩
 h15 : H 15 = ⟨1, false, .row 1 (NL i2)⟩
 l0 : w0.length = 64
 l1 : w1.length = 8
 l2 : w2.length = 1
 m0 : i0.length = 64
 m1 : i1.length = 8
 m2 : i2.length = 1
def lr0 (a place : Nat) (w : List Nat) : List Nat := if a = 0 then w else w.set place a
def lr1F : List Nat → Nat → Nat → List Nat × List Nat → List Nat × List Nat
 | [], _, _, w => w
 | p :: r, i, place, w => lr1F r (i + 1) place (lr0 p (place * 8 + i) w.1, w.2)
def lr1 (l : List UInt8) (a place : Nat) (w : List Nat × List Nat) : List Nat × List Nat := if a = 0 then w else lr1F (Cw (blk l a)).1.ptr 0 place (w.1, w.2.set place a)
def lr2F (l : List UInt8) : List Nat → Nat → List Nat × List Nat × List Nat → List Nat × List Nat × List Nat
 | [], _, w => w
 | p :: r, i, w => lr2F l r (i + 1) ((lr1 l p (0 * 8 + i) (w.1, w.2.1)).1, (lr1 l p (0 * 8 + i) (w.1, w.2.1)).2, w.2.2)
def lr2 (l : List UInt8) (a : Nat) (w : List Nat × List Nat × List Nat) : List Nat × List Nat × List Nat := if a = 0 then w else lr2F l (Cw (blk l a)).1.ptr 0 (w.1, w.2.1, w.2.2.set 0 a)
attribute [local irreducible] aops Bp Cs Df aop W WO
theorem Axu (k : Nat) (hk : 1 ≤ k) {H : Heap} {img old mv fr : AV} {n : Nat} {w0 w1 w2 i0 i1 i2 : List Nat} (hL : LK H img old mv fr n w0 w1 w2 i0 i1 i2) (a place : Nat) (hp : place < 64) :
  ∃ u H', CF k Jo 27 [.ptr 0 1 1 11 0 0, .int .i64 a, .int .i64 (0 : Nat), .int .i64 place] H = some (u, H') ∧ (LK H' img old mv fr n (lr0 a place w0) w1 w2 i0 i1 i2 ∧ u = .tup []) := by
 obtain ⟨h0, h1, h2, h3, h13, h14, h15, l0, l1, l2, m0, m1, m2⟩ := hL
 have hln : (NL w0).length = 64 := by rw [Cj, l0]
 refine fni (by omega) Lt rfl ?_
 unfold Ik lr0
 by_cases ha : a = 0
 ·rw [if_pos ha]
  have ha' : (a : Int) = 0 := by omega
  repeat' (first | refine qQb ?_ | fail)
  exact ⟨Or.inr rfl, _, rfl, ⟨h0, h1, h2, h3, h13, h14, h15, l0, l1, l2, m0, m1, m2⟩, rfl⟩
 ·rw [if_neg ha]
  have ha' : (a : Int) ≠ 0 := by omega
  unfold mkCs at h0
  repeat' (first
   | refine qS ?_ | refine En rfl rfl (by decide) (by decide) rfl rfl ?_ | refine Aw ?_ (hr := by exact h0)
   | refine Eb rfl rfl (by exact h1) hln (by omega) (by omega) (by omega) rfl rfl ?_ | refine Dz (enc := nav) (l := w0) (a := a) ?_ (hr := by exact h1) (hv0 := by exact l0)
   | refine qQb ?_ | fail)
  refine ⟨Or.inr rfl, _, rfl, ⟨h0, ?_, h2, h3, h13, h14, h15, by rw [Ee]; exact l0, l1, l2, m0, m1, m2⟩, rfl⟩
  show (⟨1, false, .row 1 ((w0.set (0 + (place : Int).toNat) a).map nav)⟩ : Blk) = _
  rw [show 0 + (place : Int).toNat = place by omega]; rfl
theorem Aqn {l : List UInt8} {n a v : Nat} (h : 2 ≤ a ∧ a < n) : (atP l n a v).1 = (Cw (blk l a)).1 := by
 unfold atP; rw [if_neg (by omega)]
theorem Axy (k : Nat) (hk : 1000040 ≤ k) {H : Heap} {f : Bool} {l : List UInt8} {old mv fr : AV} {n : Nat} {w0 w1 w2 i0 i1 i2 : List Nat} (hl : l.length < 1000000) (hn : 64 * n ≤ l.length) (hL : LK H (.islc false f 1 (BL l)) old mv fr n w0 w1 w2 i0 i1 i2) (a place : Nat) (hp : place < 8) (hr : a ≠ 0 → 2 ≤ a ∧ a < n) :
  ∃ u H', CF k Jo 26 [.ptr 0 1 1 11 0 0, .int .i64 a, .int .i64 (1 : Nat), .int .i64 place] H = some (u, H') ∧ (LK H' (.islc false f 1 (BL l)) old mv fr n (lr1 l a place (w0, w1)).1 (lr1 l a place (w0, w1)).2 w2 i0 i1 i2 ∧ u = .tup []) := by
 obtain ⟨h0, h1, h2, h3, h13, h14, h15, l0, l1, l2, m0, m1, m2⟩ := hL
 have hln : (NL w1).length = 8 := by rw [Cj, l1]
 refine fni (by omega) Lt rfl ?_
 unfold Ik
 by_cases ha : a = 0
 ·have e : lr1 l a place (w0, w1) = (w0, w1) := by unfold lr1; rw [if_pos ha]
  rw [e]
  have ha' : (a : Int) = 0 := by omega
  repeat' (first | refine qQb ?_ | fail)
  exact ⟨Or.inr rfl, _, rfl, ⟨h0, h1, h2, h3, h13, h14, h15, l0, l1, l2, m0, m1, m2⟩, rfl⟩
 have ha' : (a : Int) ≠ 0 := by omega
 have e : lr1 l a place (w0, w1) = lr1F (Cw (blk l a)).1.ptr 0 place (w0, w1.set place a) := by unfold lr1; rw [if_neg ha]
 have hat := Xf (k - 1) (by omega) false f l n a 1 hl hn
 have hpl := Ie (blk l a)
 rw [Aqn (hr ha)] at hat
 generalize hlr : lr1 l a place (w0, w1) = tot at e ⊢
 obtain ⟨⟨v, ps⟩, hx⟩ : ∃ x, x = (Cw (blk l a)).1 := ⟨_, rfl⟩
 rw [← hx] at hat hpl e
 simp only at hpl e
 unfold Nod.av at hat
 simp only at hat
 generalize (atP l n a 1).2 = ok at *
 unfold mkCs at h0
 match ps, hpl with
 | [a1, a2, a3, a4, a5, a6, a7, a8], _ =>
  repeat' (first
   | refine qS ?_ | refine En rfl rfl (by decide) (by decide) rfl rfl ?_ | refine Aw ?_ (hr := by exact h0)
   | refine Eb rfl rfl (by exact h2) hln (by omega) (by omega) (by omega) rfl rfl ?_ | refine Dz (enc := nav) (l := w1) (a := a) ?_ (hr := by exact h2) (hv0 := by exact l1)
   | refine Ab hat ?_ | refine Hn ?_ (hl := by kernel_rfl) | refine qQb ?_ | fail)
  have hset : ((NL w1).set (0 + (place : Int).toNat) (.int .i64 (a : Nat))) = NL (w1.set place a) := by
   rw [show 0 + (place : Int).toNat = place by omega]; unfold NL; rw [List.map_set]
  refine W.mono (Q := fun ex T' H' => ex = .exit 0 ∧ LK H' (.islc false f 1 (BL l)) old mv fr n tot.1 tot.2 w2 i0 i1 i2) ?_ ?_
  ·refine Fa 8 (fun i T' H' => ∃ w0', tot = lr1F ([a1, a2, a3, a4, a5, a6, a7, a8].drop i) i place (w0', w1.set place a) ∧ LK H' (.islc false f 1 (BL l)) old mv fr n w0' (w1.set place a) w2 i0 i1 i2 ∧
     Has T' [(0, .ptr 0 1 1 11 0 0), (2, .int .i64 (1 : Nat)), (3, .int .i64 place), (40, .agg ([a1, a2, a3, a4, a5, a6, a7, a8].map nav)), (41, .int .i64 (i : Nat))]) ⟨w0, e, ⟨h0, h1, ?_, h3, h13, h14, h15, l0, by rw [Ee]; exact l1, l2, m0, m1, m2⟩, rfl, rfl, rfl, rfl, rfl, trivial⟩ (by omega) ?_
   ·show (⟨1, false, .row 1 ((w1.set (0 + (place : Int).toNat) a).map nav)⟩ : Blk) = _
    rw [show 0 + (place : Int).toNat = place by omega]; rfl
   clear h0 h1 h2 h3 h13 h14 h15 hat hx
   rintro i T H2 hi ⟨w0', hgo, hL, hT⟩
   rw [hT.eq]
   simp only [over]
   by_cases hlt : i < 8
   ·obtain ⟨p, hpp⟩ : ∃ p, p = [a1, a2, a3, a4, a5, a6, a7, a8].getD i default := ⟨_, rfl⟩
    have hdr : [a1, a2, a3, a4, a5, a6, a7, a8].drop i = p :: [a1, a2, a3, a4, a5, a6, a7, a8].drop (i + 1) := by
     rw [Dl (by simpa using hlt), hpp]
     simp [hlt]
    rw [hdr] at hgo
    simp only [lr1F] at hgo
    have e1 : ((1 : Nat) : Int) - 1 = ((0 : Nat) : Int) := rfl
    have e2 : (place : Int) * 8 + (i : Int) = ((place * 8 + i : Nat) : Int) := by omega
    have hln0 := Axu (k - 1) (by omega) hL p (place * 8 + i) (by omega)
    repeat' (first
     | refine qS ?_ | refine Lb (enc := nav) p rfl rfl rfl (by omega) (by simp; omega) (by rw [Ax]; exact hpp.symm) rfl rfl ?_ | (rw [e1]) | (rw [e2])
     | refine Dd hln0 rfl rfl rfl (fun u H3 hR => ?_) | refine qQb ?_ | fail)
    exact ⟨hlt, _, hgo, hR.1, rfl, rfl, rfl, rfl, by show AV.int _ _ = AV.int _ _; congr 1, trivial⟩
   ·have hin : i = 8 := by omega
    subst hin
    have hgo : tot = (w0', w1.set place a) := hgo
    repeat' (first | refine qQb ?_ | fail)
    exact ⟨rfl, by rw [hgo]; exact hL⟩
  rintro ex T3 H3 ⟨rfl, hL⟩
  exact ⟨Or.inl rfl, _, rfl, hL, rfl⟩
theorem Avy (k : Nat) (hk : 1000050 ≤ k) {H : Heap} {f : Bool} {l : List UInt8} {old mv fr : AV} {n : Nat} {w0 w1 w2 i0 i1 i2 : List Nat} (hl : l.length < 1000000) (hn : 64 * n ≤ l.length) (hL : LK H (.islc false f 1 (BL l)) old mv fr n w0 w1 w2 i0 i1 i2) (a : Nat) (hr : a ≠ 0 → 2 ≤ a ∧ a < n) (hrp : a ≠ 0 → ∀ p ∈ (Cw (blk l a)).1.ptr, p ≠ 0 → 2 ≤ p ∧ p < n) :
  ∃ u H', CF k Jo 25 [.ptr 0 1 1 11 0 0, .int .i64 a, .int .i64 2, .int .i64 0] H = some (u, H') ∧ (LK H' (.islc false f 1 (BL l)) old mv fr n (lr2 l a (w0, w1, w2)).1 (lr2 l a (w0, w1, w2)).2.1 (lr2 l a (w0, w1, w2)).2.2 i0 i1 i2 ∧ u = .tup []) := by
 obtain ⟨h0, h1, h2, h3, h13, h14, h15, l0, l1, l2, m0, m1, m2⟩ := hL
 have hln : (NL w2).length = 1 := by rw [Cj, l2]
 refine fni (by omega) Lt rfl ?_
 unfold Ik
 by_cases ha : a = 0
 ·have e : lr2 l a (w0, w1, w2) = (w0, w1, w2) := by unfold lr2; rw [if_pos ha]
  rw [e]
  have ha' : (a : Int) = 0 := by omega
  repeat' (first | refine qQb ?_ | fail)
  exact ⟨Or.inr rfl, _, rfl, ⟨h0, h1, h2, h3, h13, h14, h15, l0, l1, l2, m0, m1, m2⟩, rfl⟩
 have ha' : (a : Int) ≠ 0 := by omega
 have e : lr2 l a (w0, w1, w2) = lr2F l (Cw (blk l a)).1.ptr 0 (w0, w1, w2.set 0 a) := by unfold lr2; rw [if_neg ha]
 have hat := Xf (k - 1) (by omega) false f l n a 2 hl hn
 have hpl := Ie (blk l a)
 have hrp := hrp ha
 rw [Aqn (hr ha)] at hat
 generalize hlr : lr2 l a (w0, w1, w2) = tot at e ⊢
 obtain ⟨⟨v, ps⟩, hx⟩ : ∃ x, x = (Cw (blk l a)).1 := ⟨_, rfl⟩
 rw [← hx] at hat hpl e hrp
 simp only at hpl e hrp
 unfold Nod.av at hat
 simp only at hat
 generalize (atP l n a 2).2 = ok at *
 unfold mkCs at h0
 match ps, hpl with
 | [a1, a2, a3, a4, a5, a6, a7, a8], _ =>
  repeat' (first
   | refine qS ?_ | refine En rfl rfl (by decide) (by decide) rfl rfl ?_ | refine Aw ?_ (hr := by exact h0)
   | refine Eb rfl rfl (by exact h3) hln (by omega) (by omega) (by omega) rfl rfl ?_ | refine Dz (enc := nav) (l := w2) (a := a) ?_ (hr := by exact h3) (hv0 := by exact l2)
   | refine Ab hat ?_ | refine Hn ?_ (hl := by kernel_rfl) | refine qQb ?_ | fail)
  refine W.mono (Q := fun ex T' H' => ex = .exit 0 ∧ LK H' (.islc false f 1 (BL l)) old mv fr n tot.1 tot.2.1 tot.2.2 i0 i1 i2) ?_ ?_
  ·refine Fa 8 (fun i T' H' => ∃ w0' w1', tot = lr2F l ([a1, a2, a3, a4, a5, a6, a7, a8].drop i) i (w0', w1', w2.set 0 a) ∧ LK H' (.islc false f 1 (BL l)) old mv fr n w0' w1' (w2.set 0 a) i0 i1 i2 ∧
     Has T' [(0, .ptr 0 1 1 11 0 0), (2, .int .i64 2), (3, .int .i64 0), (40, .agg ([a1, a2, a3, a4, a5, a6, a7, a8].map nav)), (41, .int .i64 (i : Nat))]) ⟨w0, w1, e, ⟨h0, h1, h2, rfl, h13, h14, h15, l0, l1, by rw [Ee]; exact l2, m0, m1, m2⟩, rfl, rfl, rfl, rfl, rfl, trivial⟩ (by omega) ?_
   clear h0 h1 h2 h3 h13 h14 h15 hat hx
   rintro i T H2 hi ⟨w0', w1', hgo, hL, hT⟩
   rw [hT.eq]
   simp only [over]
   by_cases hlt : i < 8
   ·obtain ⟨p, hpp⟩ : ∃ p, p = [a1, a2, a3, a4, a5, a6, a7, a8].getD i default := ⟨_, rfl⟩
    have hpm : p ∈ [a1, a2, a3, a4, a5, a6, a7, a8] := by
     rw [hpp, Ae, Aa (by simpa using hlt)]
     exact Bx _
    have hdr : [a1, a2, a3, a4, a5, a6, a7, a8].drop i = p :: [a1, a2, a3, a4, a5, a6, a7, a8].drop (i + 1) := by
     rw [Dl (by simpa using hlt), hpp]
     simp [hlt]
    rw [hdr] at hgo
    simp only [lr2F] at hgo
    have e1 : (2 : Int) - 1 = ((1 : Nat) : Int) := rfl
    have e2 : (0 : Int) * 8 + (i : Int) = ((0 * 8 + i : Nat) : Int) := by omega
    have hln0 := Axy (k - 1) (by omega) hl hn hL p (0 * 8 + i) (by omega) (hrp p hpm)
    repeat' (first
     | refine qS ?_ | refine Lb (enc := nav) p rfl rfl rfl (by omega) (by simp; omega) (by rw [Ax]; exact hpp.symm) rfl rfl ?_ | (rw [e1]) | (rw [e2])
     | refine Dd hln0 rfl rfl rfl (fun u H3 hR => ?_) | refine qQb ?_ | fail)
    exact ⟨hlt, _, _, hgo, hR.1, rfl, rfl, rfl, rfl, by show AV.int _ _ = AV.int _ _; congr 1, trivial⟩
   ·have hin : i = 8 := by omega
    subst hin
    have hgo : tot = (w0', w1', w2.set 0 a) := hgo
    repeat' (first | refine qQb ?_ | fail)
    exact ⟨rfl, by rw [hgo]; exact hL⟩
  rintro ex T3 H3 ⟨rfl, hL⟩
  exact ⟨Or.inl rfl, _, rfl, hL, rfl⟩
end Go.Proofs.YtkpndfkpdnknkaaGreat
