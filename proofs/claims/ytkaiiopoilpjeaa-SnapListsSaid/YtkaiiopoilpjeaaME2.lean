/- Lemmas. -/
import Derived.Test.YtkaiiopoilpjeaaME1
import Derived.Test.YtkaiiopoilpjeaaMD1
import Derived.Test.YtkaiiopoilpjeaaMJ4
import Derived.Test.YtkaiiopoilpjeaaMN
set_option linter.unusedSimpArgs false
set_option linter.unusedVariables false
set_option maxRecDepth 10000
set_option maxHeartbeats 16000000
namespace Go.Proofs.Ytkaiiopoilpjeaa
open Go.AI
def vD (r : List (List UInt8)) : Prop := r.length < 1000000 ∧ ∀ x ∈ r, x.length < 1000000
def ViewV.ok (v : ViewV) : Prop := vD v.head ∧ (v.snaps.length < 1000000 ∧ ∀ s ∈ v.snaps, vD s.sectors) ∧ v.opens.length < 1000000 ∧ ∀ s ∈ v.opens, vD s.sectors
instance : DecidableEq SnapV := fun ⟨a, b, c, d, e⟩ ⟨a', b', c', d', e'⟩ => decidable_of_iff (a = a' ∧ b = b' ∧ c = c' ∧ d = d' ∧ e = e') (by simp)
instance : DecidableEq ViewV := fun ⟨a, b, c⟩ ⟨a', b', c'⟩ => decidable_of_iff (a = a' ∧ b = b' ∧ c = c') (by simp)
def ViewV.av (v : ViewV) : AV := .agg v.cs
attribute [local irreducible] aops Bb Cj Dm aop W WO
theorem Afx {b : Nat} {H : Heap} {S : List SnapV} (h : SnAt b H S) (n : Nat) : fz true (n + 4) H (snAv b S.length) = Pu S := by
 unfold snAv Pu
 unfold SnAt at h
 by_cases h0 : S = []
 ·subst h0; rfl
 ·rw [if_neg h0] at h ⊢
  rw [if_neg (fun hh => h0 (Eb.1 hh))]
  have e : (S.map SnapV.av).map (fz true (n + 3) H) = S.map SnapV.av := by
   rw [Fh]
   exact Bn fun s _ => rfl
  show fz true (n + 3 + 1) H _ = _
  rw [Ph (Ek h (by simp)) (by omega), Cc, Aj (by simp), e]
  rfl
theorem Aij {l : List UInt8} {x : Img} (hx : x.fit l) : ∀ w ∈ x.trees, w.m.length = 512 ∧ ∀ a ∈ w.m, a < nb l := fun w hw => ⟨(hx.tree w hw).1.1.1, (hx.tree w hw).1.1.2.1⟩
theorem yC (k : Nat) (hk : 1000200 ≤ k) (f : Bool) (l : List UInt8) (hl : l.length < 1000000) : FnV (CF k) kQ [.islc false f 1 (BL l)] (xB l (lookQ l)) := by
 have hlk := Vc (k - 1) (by omega) f l hl
 refine fnk (by omega) yV rfl ?_
 unfold view_Of
 cases h : lookQ l with
 | error p =>
  obtain ⟨a, e⟩ := p
  have he := Oo h
  rw [h] at hlk
  unfold Ln at hlk
  unfold xB
  simp only at hlk ⊢
  have he0 : (e : Int) ≠ 0 := by omega
  repeat' (first | refine Ag (hlk) (fun _ => ?_) (fun _ => ?_) | refine Ad (hlk) ?_ | refine qQb ?_ | refine Ab (fun _ => ?_) (fun _ => ?_) | refine Ax fun _ => ?_)
  exact ⟨Or.inr rfl, _, rfl, rfl⟩
 | ok x =>
  rw [h] at hlk
  obtain ⟨hd, hx⟩ := Oz hl h
  have hm := Aij hx
  have hfew := hx.few
  have htl := hx.trees
  have hrok := hx.recs
  have hsz := hx.sup.2.2.1
  obtain ⟨f1, s1, hr, hs1⟩ := rIvF x.recs
  obtain ⟨f2, s2, hb, hs2⟩ := Jk x.blocks
  unfold Ln Img.cs at hlk
  unfold xB Hy ViewV.cs
  simp only at hlk ⊢
  rw [hr, hb] at hlk
  cases hts : x.trees with
  | nil => rw [hts] at htl; simp at htl
  | cons w0 ws =>
   rw [hts] at hlk hm htl
   have hw0 := hm w0 (by simp)
   have hse := Td (k - 1) (by omega) f false false l hd w0.m hw0.2 (by rw [hw0.1]; decide) x.sup.size (by rw [hw0.1]; exact hsz)
   unfold Sy at hse
   have he0 : ((w0 :: ws).map (WS.iv f l))[(0 : Int).toNat]? = some (.iptr false [.islc false f 1 (BL l), .int .i64 (nb l : Nat), .islc false false 1 (NL w0.m), Hi false w0.nodes, .bool w0.bad]) := rfl
   have hrl : (x.recs.map Rec.av).length = x.recs.length := Ak _
   generalize hR : Ps l w0.m x.sup.size = R at *
   repeat' (first
    | refine qS ?_ | refine Dh ?_ | refine Dv rfl rfl (by decide) he0 rfl rfl ?_ | refine Ad hse ?_
    | refine Ic (cs := [.islc false false 1 (R.map Jo), .islc false true 0 [], .islc false true 0 []]) ?_ (hc := by kernel_rfl) | refine Iz ?_ (hl := by kernel_rfl)
    | refine Ba (n := x.recs.length) rfl hrl rfl rfl ?_ | refine Ag (hlk) (fun _ => ?_) (fun _ => ?_) | refine Ad (hlk) ?_ | refine qQb ?_
    | refine Ab (fun _ => ?_) (fun _ => ?_) | refine Ax fun _ => ?_)
   refine W.mono (Afg (k := k - 1) (l := l) (f := f) (f' := f1) (s' := s1) (recs := x.recs) (ws := ws) (w0 := w0) (c0 := .int .i64 x.sup.gen) (c1 := .int .i64 x.sup.blocks) (c2 := .int .i64 x.sup.root) (c3 := .int .i64 x.sup.size) (c4 := .int .i64 x.sup.first) (c5 := .int .i64 x.slot) (bv := .islc false f2 s2 (NL x.blocks)) (hd := .islc false false 1 (R.map Jo)) (by omega) hd hs1 (by omega) (by simpa using htl) (fun w hw => hm w (by simp [hw])) (fun r hr => (hrok r hr).2.2.2.1) ?_ ?_ ?_ ?_) ?_
   ·rfl
   ·rfl
   ·rfl
   ·exact ⟨rfl, rfl, rfl, rfl, rfl, rfl, rfl, trivial⟩
   rintro ex T2 H2 ⟨rfl, g0, g1, g7, g5, h2, h7⟩
   rw [Has.eq (T := T2) (ps := [(2, _), (7, _)]) ⟨h2, h7, trivial⟩]
   simp only [over]
   show W _ _
   have g0' : H2 0 = ⟨1, false, .row 3 [.agg [.islc false true 0 [], .islc false true 0 [], .islc false true 0 []]]⟩ := g0.trans rfl
   repeat' (first | refine qS ?_ | refine Bj ?_ (hr := by exact g1) | refine Cr ?_ (hr := by exact g0') | refine qQb ?_ | refine Ab (fun _ => ?_) (fun _ => ?_) | refine Ax fun _ => ?_)
   refine ⟨Or.inr rfl, .tup [.agg [.islc false false 1 (R.map Jo), snAv 7 (Nu l (x.recs.zip ws)).length, snAv 5 (Ny l (x.recs.zip ws)).length], .int .i64 0], rfl, ?_⟩
   show AV.tup [.agg [_, fz true 4 _ (snAv 7 _), fz true 4 _ (snAv 5 _)], _] = _
   have hup : ∀ (v : Blk) b (S : List SnapV), b ≠ 0 → SnAt b H2 S → SnAt b (H2.upd 0 v) S := by
    intro v b S hb0 hS
    unfold SnAt at hS ⊢
    rw [Heap.upd_eq, if_neg hb0]; exact hS
   rw [Afx (hup _ 7 _ (by decide) g7) 0, Afx (hup _ 5 _ (by decide) g5) 0]
   unfold Sy Nu Ny
   simp only [jG, pJ, hR]
   rfl
def aJ (l : List UInt8) : Bool := match lookQ l with | .ok _ => true | .error _ => false
theorem Aee (k : Nat) (hk : 1000200 ≤ k) (f : Bool) (l : List UInt8) (hl : l.length < 1000000) : FnV (CF k) Yh [.islc false f 1 (BL l)] (.bool (aJ l)) := by
 have hlk := Vc (k - 2) (by omega) f l hl
 cases h : lookQ l with
 | error p =>
  obtain ⟨a, e⟩ := p
  have he := Oo h
  rw [h] at hlk
  unfold Ln at hlk
  have hsp : aJ l = false := by unfold aJ; rw [h]
  rw [hsp]
  simp only at hlk
  have he0 : (e : Int) ≠ 0 := by omega
  have hck : FnV (CF (k - 1)) Rw [.islc false f 1 (BL l)] (.islc false false 2 [.agg [.int .i64 a, .int .i64 e]]) := by
   refine fnk (by omega) Zf rfl ?_
   rw [show k - 1 - 1 = k - 2 by omega]
   unfold Rs
   repeat' (first | refine Ag (hlk) (fun _ => ?_) (fun _ => ?_) | refine Ad (hlk) ?_ | refine qQb ?_ | refine Ab (fun _ => ?_) (fun _ => ?_))
   exact ⟨Or.inr rfl, _, rfl, rfl⟩
  refine fnk (by omega) Yi rfl ?_
  unfold Rc
  repeat' (first | refine qS ?_ | refine Ba (n := 1) rfl rfl rfl rfl ?_ | refine Ag (hck) (fun _ => ?_) (fun _ => ?_) | refine Ad (hck) ?_ | refine qQb ?_ | refine Ab (fun _ => ?_) (fun _ => ?_))
  exact ⟨Or.inr rfl, _, rfl, rfl⟩
 | ok x =>
  rw [h] at hlk
  obtain ⟨f1, s1, hr, hs1⟩ := rIvF x.recs
  obtain ⟨f2, s2, hb, hs2⟩ := Jk x.blocks
  unfold Ln Img.cs at hlk
  simp only at hlk
  rw [hr, hb] at hlk
  have hsp : aJ l = true := by unfold aJ; rw [h]
  rw [hsp]
  have hck : FnV (CF (k - 1)) Rw [.islc false f 1 (BL l)] (.islc false true 0 []) := by
   refine fnk (by omega) Zf rfl ?_
   rw [show k - 1 - 1 = k - 2 by omega]
   unfold Rs
   repeat' (first | refine Ag (hlk) (fun _ => ?_) (fun _ => ?_) | refine Ad (hlk) ?_ | refine qQb ?_ | refine Ab (fun _ => ?_) (fun _ => ?_))
   exact ⟨Or.inr rfl, _, rfl, rfl⟩
  refine fnk (by omega) Yi rfl ?_
  unfold Rc
  repeat' (first | refine qS ?_ | refine Ba (n := 0) rfl rfl rfl rfl ?_ | refine Ag (hck) (fun _ => ?_) (fun _ => ?_) | refine Ad (hck) ?_ | refine qQb ?_ | refine Ab (fun _ => ?_) (fun _ => ?_))
  exact ⟨Or.inr rfl, _, rfl, rfl⟩
end Go.Proofs.Ytkaiiopoilpjeaa
