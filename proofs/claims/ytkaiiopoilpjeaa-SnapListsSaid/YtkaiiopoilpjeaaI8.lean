import Derived.Test.YtkaiiopoilpjeaaI7
set_option linter.unusedSimpArgs false
set_option linter.unusedVariables false
set_option maxRecDepth 10000
set_option maxHeartbeats 16000000
namespace Go.Proofs.Ytkaiiopoilpjeaa
open Go.AI
theorem To {f : Nat} {v : AV} {args : List AV} {k : Nat} (hk : 1000 ≤ k) (h : ∀ j, (CF (j + 1000) f 0 args Heap.none).map (fun p => fz true deep p.2 p.1) = some v) : FnV (CF k) f args v := by
 obtain ⟨j, rfl⟩ : ∃ j, k = j + 1000 := ⟨k - 1000, by omega⟩
 have := h j
 cases hc : CF (j + 1000) f 0 args Heap.none with
 | none => rw [hc] at this; cases this
 | some p => rw [hc] at this; exact ⟨p.1, p.2, hc, Option.some.inj this⟩
theorem Aas (k : Nat) (hk : 1000 ≤ k) : FnV (CF k) Sf [.int .i64 (0 : Nat)] (.int .i64 (1 : Nat)) := To hk fun j => by kernel_rfl
theorem Abf (k : Nat) (hk : 1000 ≤ k) : FnV (CF k) Sf [.int .i64 (1 : Nat)] (.int .i64 (8 : Nat)) := To hk fun j => by kernel_rfl
theorem Aah (k : Nat) (hk : 1000 ≤ k) : FnV (CF k) Sf [.int .i64 (2 : Nat)] (.int .i64 (64 : Nat)) := To hk fun j => by kernel_rfl
attribute [local irreducible] aops Bb Cj Dm aop W WO
theorem Abe (k : Nat) (hk : 10 ≤ k) (t f : Bool) (s : Nat) (v : Int) : FnV (CF k) Hm [.islc t f s [], .int .i64 v] (.int .i64 (-1)) := by
 refine fnk (by omega) Jx rfl ?_
 unfold Gl
 repeat' (first | refine qQb ?_ | refine Ab (fun _ => ?_) (fun _ => ?_))
 refine Ib (w_it (by omega) ?_)
 repeat' (first | refine qQb ?_ | refine Ab (fun _ => ?_) (fun _ => ?_))
 exact ⟨Or.inr rfl, _, rfl, rfl⟩
theorem cD (k : Nat) (hk : 11 ≤ k) (t f : Bool) (s : Nat) (v : Int) : FnV (CF k) Cm [.islc t f s [], .int .i64 v] (.bool false) := by
 have hi := Abe (k - 1) (by omega) t f s v
 refine fnk (by omega) Ja rfl ?_
 unfold Fo
 repeat' (first | refine Ag (hi) (fun _ => ?_) (fun _ => ?_) | refine Ad (hi) ?_ | refine qQb ?_ | refine Ab (fun _ => ?_) (fun _ => ?_))
 exact ⟨Or.inr rfl, _, rfl, rfl⟩
structure WS where
 m : List Nat
 nodes : List Nat
 bad : Bool
def Hj (n level frm : Nat) (rec : Nat → Nat → WS → WS) (w : WS) (i p : Nat) : WS :=
 if w.bad then w else if n ≤ p then { w with bad := true } else if p = 0 then w
 else if level = 0 then { w with m := w.m.set (frm + i * 8 ^ level) p } else rec p (frm + i * 8 ^ level) w
def Gh (n level frm : Nat) (rec : Nat → Nat → WS → WS) : List Nat → Nat → WS → WS
 | [], _, w => w
 | p :: r, i, w => Gh n level frm rec r (i + 1) (Hj n level frm rec w i p)
def Hz (l : List UInt8) (n level at0 frm : Nat) (rec : Nat → Nat → WS → WS) (w : WS) : WS :=
 if (atP l n at0 level).2 = false ∨ w.nodes.any (at0 == ·) = true then { w with bad := true }
 else Gh n level frm rec (atP l n at0 level).1.ptr 0 { w with nodes := w.nodes ++ [at0] }
def Dz (l : List UInt8) (n : Nat) : Nat → Nat → Nat → WS → WS
 | 0, at0, frm, w => Hz l n 0 at0 frm (fun _ _ w => w) w
 | v + 1, at0, frm, w => Hz l n (v + 1) at0 frm (Dz l n v) w
theorem Mp {n level frm : Nat} {rec : Nat → Nat → WS → WS} : ∀ (ps : List Nat) (i : Nat) {w : WS}, w.bad = true → Gh n level frm rec ps i w = w
 | [], _, _, _ => rfl
 | p :: r, i, w, h => by
  have : Hj n level frm rec w i p = w := by unfold Hj; rw [if_pos h]
  simp only [Gh, this]
  exact Mp r (i + 1) h
def Ew (l : List Nat) : AV := if l = [] then .islc false true 0 [] else .slc 5 1 l.length 1 0 l.length none
def WAt (t f : Bool) (l : List UInt8) (n : Nat) (H : Heap) (w : WS) : Prop :=
 H 1 = ⟨1, false, .row 5 [.agg [.islc t f 1 (BL l), .int .i64 n, .slc 0 1 512 1 0 512 none, Ew w.nodes, .bool w.bad]]⟩ ∧ H 0 = ⟨1, false, .row 1 (NL w.m)⟩ ∧ w.m.length = 512 ∧ w.nodes.length < 1000 ∧
  (if w.nodes = [] then (H 5).gen = 0 else H 5 = ⟨1, false, .row 1 (NL w.nodes)⟩)
theorem Ge {out : Bool} {H : Heap} {j gn v : Nat} {ro : Bool} {cap : Option Nat} {l : List Nat} (hr : H j = ⟨gn, ro, .row 1 (NL l)⟩) (hv : l.length = v) (n : Nat) : fz out (n + 2) H (.slc j gn v 1 0 v cap) = .islc (!out) false 1 (NL l) := by
 rw [Ph (Ek hr (by rw [Be]; exact hv)) (by omega), Cc, Aj (by rw [Be]; omega), Afz]
theorem dR (l : List UInt8) (n a v : Nat) : (atP l n a v).1.ptr.length = 8 := by
 unfold atP
 split
 ·rfl
 ·exact Ma _
theorem Aik (k : Nat) (hk : 1000040 ≤ k) (t f : Bool) (l : List UInt8) (n : Nat) (hl : l.length < 1000000) (hn : 64 * n ≤ l.length) (at0 frm : Nat) (hf : frm + 8 * 1 ≤ 512) (H : Heap) (w : WS) (hw : WAt t f l n H w) (he : w.nodes ≠ []) (hb : w.bad = false) (hcount : w.nodes.length + 1 < 1000) :
  ∃ u H', CF k Ia 9 [.ptr 1 1 1 5 0 0, .int .i64 at0, .int .i64 (0 : Nat), .int .i64 frm] H = some (u, H') ∧ (u = .tup [] ∧ WAt t f l n H' (Dz l n 0 at0 frm w) ∧ (Dz l n 0 at0 frm w).nodes.length ≤ w.nodes.length + 1 ∧ ((Dz l n 0 at0 frm w).nodes ≠ []) ∧ ∀ j, j < 9 → j ≠ 0 → j ≠ 1 → j ≠ 5 → H' j = H j) := by
 obtain ⟨hw1, hw0, hm, hnl, hw5⟩ := hw
 have hat := bU (k - 1) (by omega) t f l n at0 0 hl hn
 have hun := Aas (k - 1) (by omega)
 have hpl := dR l n at0 0
 have hgo : Dz l n 0 at0 frm w = Hz l n 0 at0 frm (fun _ _ w => w) w := rfl
 obtain ⟨⟨⟨v, ps⟩, is⟩, hx⟩ : ∃ x, x = atP l n at0 0 := ⟨_, rfl⟩
 unfold Hz at hgo
 rw [← hx] at hat hpl hgo
 simp only at hpl hgo
 unfold Nod.av at hat
 simp only at hat
 obtain ⟨a1, a2, a3, a4, a5, a6, a7, a8, hps⟩ : ∃ a1 a2 a3 a4 a5 a6 a7 a8, ps = [a1, a2, a3, a4, a5, a6, a7, a8] := by
  match ps, hpl with
  | [a1, a2, a3, a4, a5, a6, a7, a8], _ => exact ⟨a1, a2, a3, a4, a5, a6, a7, a8, rfl⟩
 rw [hps] at hat
 have hct : FnV (CF (k - 1)) Cm [.islc true false 1 (NL w.nodes), .int .i64 at0] (.bool (w.nodes.any (at0 == ·))) := Ri (k - 1) (by omega) true false w.nodes at0 (by omega)
 rw [if_neg he] at hw5
 have hav : Ew w.nodes = .slc 5 1 w.nodes.length 1 0 w.nodes.length none := by unfold Ew; rw [if_neg he]
 rw [hav] at hw1
 refine fni (by omega) Kb rfl ?_
 unfold Ht
 cases is with
 | false =>
  rw [if_pos (.inl rfl)] at hgo
  rw [hgo]
  repeat' (first
   | refine qS ?_ | refine qN ?_ | refine Ej ?_ | refine Bj ?_ (hr := by exact hw1) | refine Ad hat ?_ | refine Iz (hl := by kernel_rfl) ?_
   | refine Cr ?_ (hr := by exact hw1) | refine qQb ?_ | refine Ab (fun _ => ?_) (fun _ => ?_) | refine Ax fun _ => ?_)
  refine ⟨Or.inr rfl, _, rfl, rfl, ⟨by rw [hav]; rfl, hw0, hm, hnl, by rw [if_neg he]; exact hw5⟩, by simp, he, (fun j h1 h2 h3 h4 => ?_)⟩
  have e1 : ∀ (H : Heap) b, H.upd 1 b j = H j := fun H b => Ck H b h3
  have e2 : ∀ (H : Heap) b, H.upd 9 b j = H j := fun H b => Ck H b (by omega)
  simp only [Heap.newRow, Heap.setRow, El, e1, e2]
 | true =>
  cases hc : w.nodes.any (at0 == ·) with
  | true =>
   rw [hc] at hgo hct
   rw [if_pos (.inr rfl)] at hgo
   rw [hgo]
   repeat' (first
    | refine qS ?_ | refine qN ?_ | refine Ej ?_ | refine Bj ?_ (hr := by exact hw1) | refine Ad hat ?_
    | refine Ad hct ?_ rfl (by show [fz false (4 + 2) _ (.slc 5 1 w.nodes.length 1 0 w.nodes.length none), _] = _; exact Ay (fun z => [z, AV.int .i64 (at0 : Nat)]) (Ge (by exact hw5) rfl 4))
    | refine Iz (hl := by kernel_rfl) ?_ | refine Cr ?_ (hr := by exact hw1) | refine qQb ?_ | refine Ab (fun _ => ?_) (fun _ => ?_) | refine Ax fun _ => ?_)
   refine ⟨Or.inr rfl, _, rfl, rfl, ⟨by rw [hav]; rfl, hw0, hm, hnl, by rw [if_neg he]; exact hw5⟩, by simp, he, (fun j h1 h2 h3 h4 => ?_)⟩
   have e1 : ∀ (H : Heap) b, H.upd 1 b j = H j := fun H b => Ck H b h3
   have e2 : ∀ (H : Heap) b, H.upd 9 b j = H j := fun H b => Ck H b (by omega)
   simp only [Heap.newRow, Heap.setRow, El, e1, e2]
  | false =>
   rw [hc] at hgo
   rw [if_neg (by simp)] at hgo
   rw [hc] at hct
   repeat' (first
    | refine qS ?_ | refine qN ?_ | refine Ej ?_ | refine Bj ?_ (hr := by exact hw1) | refine Ad hat ?_
    | refine Ad hct ?_ rfl (by show [fz false (4 + 2) _ (.slc 5 1 w.nodes.length 1 0 w.nodes.length none), _] = _; exact Ay (fun z => [z, AV.int .i64 (at0 : Nat)]) (Ge (by exact hw5) rfl 4))
    | refine Iz (hl := by kernel_rfl) ?_ | refine Cr ?_ (hr := by exact hw1)
    | refine It (es := NL w.nodes) rfl rfl rfl (by exact hw5) (by rw [Be]) rfl (by omega) rfl rfl (fun _ => ?_) | refine qQb ?_ | refine Ab (fun _ => ?_) (fun _ => ?_)
    | refine Ax fun _ => ?_)
   have e5 : NL (w.nodes ++ [at0]) = NL w.nodes ++ [.int .i64 at0] := by simp [NL]
   have hav1 : Ew (w.nodes ++ [at0]) = .slc 5 1 (w.nodes.length + 1) 1 0 (w.nodes.length + 1) none := by unfold Ew; rw [if_neg (by simp)]; simp
   refine W.mono (Q := fun ex T' H' => (ex = .ret ∨ ex = .exit 0) ∧ ∃ w', Dz l n 0 at0 frm w = w' ∧ WAt t f l n H' w' ∧ w'.nodes ≠ [] ∧ w'.nodes.length ≤ w.nodes.length + 1 ∧ ∀ j, j < 9 → j ≠ 0 → j ≠ 1 → j ≠ 5 → H' j = H j) ?_ ?_
   ·refine Fx 8 (fun i T' H' => ∃ w', Dz l n 0 at0 frm w = Gh n 0 frm (fun _ _ w => w) (ps.drop i) i w' ∧ WAt t f l n H' w' ∧ w'.nodes ≠ [] ∧ w'.nodes.length ≤ w.nodes.length + 1 + i * 0 ∧ (∀ j, j < 9 → j ≠ 0 → j ≠ 1 → j ≠ 5 → H' j = H j) ∧
      Has T' [(0, .ptr 1 1 1 5 0 0), (2, .int .i64 (0 : Nat)), (3, .int .i64 frm), (51, .agg (NL ps)), (52, .int .i64 (i : Nat))]) ⟨⟨w.m, w.nodes ++ [at0], w.bad⟩, hgo, ⟨?_, hw0, hm, by simp; omega, ?_⟩, by simp, by simp, ?_, rfl, rfl, rfl, by rw [hps]; rfl, rfl, trivial⟩ (by omega) ?_
    ·rw [hav1]
     rfl
    ·rw [if_neg (by simp), e5]
     rfl
    ·intro j h1 h2 h3 h4
     have e1 : ∀ (H : Heap) b, H.upd 1 b j = H j := fun H b => Ck H b h3
     have e2 : ∀ (H : Heap) b, H.upd 9 b j = H j := fun H b => Ck H b (by omega)
     have e3 : ∀ (H : Heap) b, H.upd (9 + 1) b j = H j := fun H b => Ck H b (by omega)
     have e4 : ∀ (H : Heap) b, H.upd 5 b j = H j := fun H b => Ck H b h4
     have e6 : ∀ (H : Heap) b, H.upd (9 + 2) b j = H j := fun H b => Ck H b (by omega)
     simp only [Heap.newRow, Heap.setRow, El, e1, e2, e3, e4, e6]
    clear hw1 hw0 hw5 hat hct hgo hav hav1 e5 hc
    rintro i T H2 hi ⟨w', hgo, ⟨g1, g0, gm, gn, g5⟩, gne, gcnt, gfr, hT⟩
    rw [if_neg gne] at g5
    have gav : Ew w'.nodes = .slc 5 1 w'.nodes.length 1 0 w'.nodes.length none := by unfold Ew; rw [if_neg gne]
    rw [gav] at g1
    rw [hT.eq]
    simp only [over]
    by_cases hil : i < 8
    ·rw [Mv (show i < ps.length by omega)] at hgo
     obtain ⟨p, hp⟩ : ∃ p, p = ps.getD i default := ⟨_, rfl⟩
     have hp2 : ps.getD (i : Int).toNat default = p := hp.symm
     rw [← hp] at hgo
     have hi8 : (ps.map fun n : Nat => AV.int .i64 n) = NL ps := rfl
     cases hbd : w'.bad with
     | true =>
      rw [hbd] at g1
      rw [Mp _ _ hbd] at hgo
      repeat' (first
       | refine qS ?_ | refine qN ?_ | refine Jh (enc := fun n : Nat => AV.int .i64 n) p rfl rfl hpl (by omega) (by omega) hp2 rfl rfl ?_ | refine Ej ?_
       | refine Bj ?_ (hr := by exact g1) | refine Ag (hun) (fun _ => ?_) (fun _ => ?_) | refine Ad (hun) ?_ | refine qQb ?_ | refine Ab (fun _ => ?_) (fun _ => ?_)
       | refine Ax fun _ => ?_)
      exact ⟨.inl rfl, w', hgo, ⟨by rw [gav, hbd]; exact g1, g0, gm, gn, by rw [if_neg gne]; exact g5⟩, gne, by omega, gfr⟩
     | false =>
      rw [hbd] at g1
      simp only [Gh] at hgo
      unfold Hj at hgo
      rw [if_neg (by simp [hbd])] at hgo
      by_cases hpn : n ≤ p
      ·rw [if_pos hpn] at hgo
       repeat' (first
        | refine qS ?_ | refine qN ?_ | refine Jh (enc := fun n : Nat => AV.int .i64 n) p rfl rfl hpl (by omega) (by omega) hp2 rfl rfl ?_ | refine Ej ?_
        | refine Bj ?_ (hr := by exact g1) | refine Cr ?_ (hr := by exact g1) | refine Ag (hun) (fun _ => ?_) (fun _ => ?_) | refine Ad (hun) ?_ | refine qQb ?_
        | refine Ab (fun _ => ?_) (fun _ => ?_) | refine Ax fun _ => ?_)
       refine ⟨hil, _, hgo, ⟨by rw [gav]; rfl, g0, gm, gn, by rw [if_neg gne]; exact g5⟩, gne, by show w'.nodes.length ≤ _; omega, fun j h1 h2 h3 h4 => ?_, rfl, rfl, rfl, rfl, by show AV.int _ _ = AV.int _ _; congr 1, trivial⟩
       rw [Ck _ _ h3]
       exact gfr j h1 h2 h3 h4
      rw [if_neg hpn] at hgo
      by_cases hp0 : p = 0
      ·rw [if_pos hp0] at hgo
       repeat' (first
        | refine qS ?_ | refine qN ?_ | refine Jh (enc := fun n : Nat => AV.int .i64 n) p rfl rfl hpl (by omega) (by omega) hp2 rfl rfl ?_ | refine Ej ?_
        | refine Bj ?_ (hr := by exact g1) | refine Ag (hun) (fun _ => ?_) (fun _ => ?_) | refine Ad (hun) ?_ | refine qQb ?_ | refine Ab (fun _ => ?_) (fun _ => ?_)
        | refine Ax fun _ => ?_)
       exact ⟨hil, w', hgo, ⟨by rw [gav, hbd]; exact g1, g0, gm, gn, by rw [if_neg gne]; exact g5⟩, gne, by omega, gfr, rfl, rfl, rfl, rfl, by show AV.int _ _ = AV.int _ _; congr 1, trivial⟩
      rw [if_neg hp0] at hgo
      rw [if_pos rfl] at hgo
      repeat' (first
       | refine qS ?_ | refine qN ?_ | refine Jh (enc := fun n : Nat => AV.int .i64 n) p rfl rfl hpl (by omega) (by omega) hp2 rfl rfl ?_ | refine Ej ?_
       | refine Bj ?_ (hr := by exact g1) | refine Ep rfl rfl (by exact g0) (by rw [Be]; exact gm) (by omega) (by omega) (by omega) rfl rfl ?_
       | refine Ho (enc := nav) (l := w'.m) (a := p) ?_ (hr := by exact g0) (hv0 := by exact gm) | refine Ag (hun) (fun _ => ?_) (fun _ => ?_) | refine Ad (hun) ?_
       | refine qQb ?_ | refine Ab (fun _ => ?_) (fun _ => ?_) | refine Ax fun _ => ?_)
      have hix : 0 + ((frm : Int) + (i : Int) * ((1 : Nat) : Int)).toNat = frm + i * 8 ^ 0 := by omega
      refine ⟨hil, _, hgo, ⟨by rw [gav, hbd]; exact g1, ?_, by simp [gm], gn, by rw [if_neg gne]; exact g5⟩, gne, by show w'.nodes.length ≤ _; omega, fun j h1 h2 h3 h4 => ?_, rfl, rfl, rfl, rfl, by show AV.int _ _ = AV.int _ _; congr 1, trivial⟩
      ·show (⟨1, false, .row 1 ((w'.m.set (0 + ((frm : Int) + (i : Int) * ((1 : Nat) : Int)).toNat) p).map nav)⟩ : Blk) = _
       rw [hix]; rfl
      ·rw [Ck _ _ h2]
       exact gfr j h1 h2 h3 h4
    ·have hin : i = 8 := by omega
     rw [Bm (by omega)] at hgo
     simp only [Gh] at hgo
     repeat' (first | refine qS ?_ | refine qN ?_ | refine qQb ?_ | refine Ab (fun _ => ?_) (fun _ => ?_) | refine Ax fun _ => ?_)
     exact ⟨.inr rfl, w', hgo, ⟨by rw [gav]; exact g1, g0, gm, gn, by rw [if_neg gne]; exact g5⟩, gne, by omega, gfr⟩
   rintro ex T2 H2 ⟨hex, w', hgo2, hwat, gne, gcnt, gfr⟩
   rw [hgo2]
   rcases hex with rfl | rfl
   ·exact ⟨Or.inr rfl, _, rfl, rfl, hwat, gcnt, gne, gfr⟩
   ·exact ⟨Or.inl rfl, _, rfl, rfl, hwat, gcnt, gne, gfr⟩
theorem Aii (k : Nat) (hk : 1000041 ≤ k) (t f : Bool) (l : List UInt8) (n : Nat) (hl : l.length < 1000000) (hn : 64 * n ≤ l.length) (at0 frm : Nat) (hf : frm + 8 * 8 ≤ 512) (H : Heap) (w : WS) (hw : WAt t f l n H w) (he : w.nodes ≠ []) (hb : w.bad = false) (hcount : w.nodes.length + 9 < 1000) :
  ∃ u H', CF k Ia 6 [.ptr 1 1 1 5 0 0, .int .i64 at0, .int .i64 (1 : Nat), .int .i64 frm] H = some (u, H') ∧ (u = .tup [] ∧ WAt t f l n H' (Dz l n 1 at0 frm w) ∧ (Dz l n 1 at0 frm w).nodes.length ≤ w.nodes.length + 9 ∧ ((Dz l n 1 at0 frm w).nodes ≠ []) ∧ ∀ j, j < 6 → j ≠ 0 → j ≠ 1 → j ≠ 5 → H' j = H j) := by
 obtain ⟨hw1, hw0, hm, hnl, hw5⟩ := hw
 have hat := bU (k - 1) (by omega) t f l n at0 1 hl hn
 have hun := Abf (k - 1) (by omega)
 have hpl := dR l n at0 1
 have hgo : Dz l n 1 at0 frm w = Hz l n 1 at0 frm (Dz l n 0) w := rfl
 obtain ⟨⟨⟨v, ps⟩, is⟩, hx⟩ : ∃ x, x = atP l n at0 1 := ⟨_, rfl⟩
 unfold Hz at hgo
 rw [← hx] at hat hpl hgo
 simp only at hpl hgo
 unfold Nod.av at hat
 simp only at hat
 obtain ⟨a1, a2, a3, a4, a5, a6, a7, a8, hps⟩ : ∃ a1 a2 a3 a4 a5 a6 a7 a8, ps = [a1, a2, a3, a4, a5, a6, a7, a8] := by
  match ps, hpl with
  | [a1, a2, a3, a4, a5, a6, a7, a8], _ => exact ⟨a1, a2, a3, a4, a5, a6, a7, a8, rfl⟩
 rw [hps] at hat
 have hct : FnV (CF (k - 1)) Cm [.islc true false 1 (NL w.nodes), .int .i64 at0] (.bool (w.nodes.any (at0 == ·))) := Ri (k - 1) (by omega) true false w.nodes at0 (by omega)
 rw [if_neg he] at hw5
 have hav : Ew w.nodes = .slc 5 1 w.nodes.length 1 0 w.nodes.length none := by unfold Ew; rw [if_neg he]
 rw [hav] at hw1
 refine fni (by omega) Kb rfl ?_
 unfold Ht
 cases is with
 | false =>
  rw [if_pos (.inl rfl)] at hgo
  rw [hgo]
  repeat' (first
   | refine qS ?_ | refine qN ?_ | refine Ej ?_ | refine Bj ?_ (hr := by exact hw1) | refine Ad hat ?_ | refine Iz (hl := by kernel_rfl) ?_
   | refine Cr ?_ (hr := by exact hw1) | refine qQb ?_ | refine Ab (fun _ => ?_) (fun _ => ?_) | refine Ax fun _ => ?_)
  refine ⟨Or.inr rfl, _, rfl, rfl, ⟨by rw [hav]; rfl, hw0, hm, hnl, by rw [if_neg he]; exact hw5⟩, by simp, he, (fun j h1 h2 h3 h4 => ?_)⟩
  have e1 : ∀ (H : Heap) b, H.upd 1 b j = H j := fun H b => Ck H b h3
  have e2 : ∀ (H : Heap) b, H.upd 6 b j = H j := fun H b => Ck H b (by omega)
  simp only [Heap.newRow, Heap.setRow, El, e1, e2]
 | true =>
  cases hc : w.nodes.any (at0 == ·) with
  | true =>
   rw [hc] at hgo hct
   rw [if_pos (.inr rfl)] at hgo
   rw [hgo]
   repeat' (first
    | refine qS ?_ | refine qN ?_ | refine Ej ?_ | refine Bj ?_ (hr := by exact hw1) | refine Ad hat ?_
    | refine Ad hct ?_ rfl (by show [fz false (4 + 2) _ (.slc 5 1 w.nodes.length 1 0 w.nodes.length none), _] = _; exact Ay (fun z => [z, AV.int .i64 (at0 : Nat)]) (Ge (by exact hw5) rfl 4))
    | refine Iz (hl := by kernel_rfl) ?_ | refine Cr ?_ (hr := by exact hw1) | refine qQb ?_ | refine Ab (fun _ => ?_) (fun _ => ?_) | refine Ax fun _ => ?_)
   refine ⟨Or.inr rfl, _, rfl, rfl, ⟨by rw [hav]; rfl, hw0, hm, hnl, by rw [if_neg he]; exact hw5⟩, by simp, he, (fun j h1 h2 h3 h4 => ?_)⟩
   have e1 : ∀ (H : Heap) b, H.upd 1 b j = H j := fun H b => Ck H b h3
   have e2 : ∀ (H : Heap) b, H.upd 6 b j = H j := fun H b => Ck H b (by omega)
   simp only [Heap.newRow, Heap.setRow, El, e1, e2]
  | false =>
   rw [hc] at hgo
   rw [if_neg (by simp)] at hgo
   rw [hc] at hct
   repeat' (first
    | refine qS ?_ | refine qN ?_ | refine Ej ?_ | refine Bj ?_ (hr := by exact hw1) | refine Ad hat ?_
    | refine Ad hct ?_ rfl (by show [fz false (4 + 2) _ (.slc 5 1 w.nodes.length 1 0 w.nodes.length none), _] = _; exact Ay (fun z => [z, AV.int .i64 (at0 : Nat)]) (Ge (by exact hw5) rfl 4))
    | refine Iz (hl := by kernel_rfl) ?_ | refine Cr ?_ (hr := by exact hw1)
    | refine It (es := NL w.nodes) rfl rfl rfl (by exact hw5) (by rw [Be]) rfl (by omega) rfl rfl (fun _ => ?_) | refine qQb ?_ | refine Ab (fun _ => ?_) (fun _ => ?_)
    | refine Ax fun _ => ?_)
   have e5 : NL (w.nodes ++ [at0]) = NL w.nodes ++ [.int .i64 at0] := by simp [NL]
   have hav1 : Ew (w.nodes ++ [at0]) = .slc 5 1 (w.nodes.length + 1) 1 0 (w.nodes.length + 1) none := by unfold Ew; rw [if_neg (by simp)]; simp
   refine W.mono (Q := fun ex T' H' => (ex = .ret ∨ ex = .exit 0) ∧ ∃ w', Dz l n 1 at0 frm w = w' ∧ WAt t f l n H' w' ∧ w'.nodes ≠ [] ∧ w'.nodes.length ≤ w.nodes.length + 9 ∧ ∀ j, j < 6 → j ≠ 0 → j ≠ 1 → j ≠ 5 → H' j = H j) ?_ ?_
   ·refine Fx 8 (fun i T' H' => ∃ w', Dz l n 1 at0 frm w = Gh n 1 frm (Dz l n 0) (ps.drop i) i w' ∧ WAt t f l n H' w' ∧ w'.nodes ≠ [] ∧ w'.nodes.length ≤ w.nodes.length + 1 + i * 1 ∧ (∀ j, j < 6 → j ≠ 0 → j ≠ 1 → j ≠ 5 → H' j = H j) ∧
      Has T' [(0, .ptr 1 1 1 5 0 0), (2, .int .i64 (1 : Nat)), (3, .int .i64 frm), (51, .agg (NL ps)), (52, .int .i64 (i : Nat))]) ⟨⟨w.m, w.nodes ++ [at0], w.bad⟩, hgo, ⟨?_, hw0, hm, by simp; omega, ?_⟩, by simp, by simp, ?_, rfl, rfl, rfl, by rw [hps]; rfl, rfl, trivial⟩ (by omega) ?_
    ·rw [hav1]
     rfl
    ·rw [if_neg (by simp), e5]
     rfl
    ·intro j h1 h2 h3 h4
     have e1 : ∀ (H : Heap) b, H.upd 1 b j = H j := fun H b => Ck H b h3
     have e2 : ∀ (H : Heap) b, H.upd 6 b j = H j := fun H b => Ck H b (by omega)
     have e3 : ∀ (H : Heap) b, H.upd (6 + 1) b j = H j := fun H b => Ck H b (by omega)
     have e4 : ∀ (H : Heap) b, H.upd 5 b j = H j := fun H b => Ck H b h4
     have e6 : ∀ (H : Heap) b, H.upd (6 + 2) b j = H j := fun H b => Ck H b (by omega)
     simp only [Heap.newRow, Heap.setRow, El, e1, e2, e3, e4, e6]
    clear hw1 hw0 hw5 hat hct hgo hav hav1 e5 hc
    rintro i T H2 hi ⟨w', hgo, ⟨g1, g0, gm, gn, g5⟩, gne, gcnt, gfr, hT⟩
    rw [if_neg gne] at g5
    have gav : Ew w'.nodes = .slc 5 1 w'.nodes.length 1 0 w'.nodes.length none := by unfold Ew; rw [if_neg gne]
    rw [gav] at g1
    rw [hT.eq]
    simp only [over]
    by_cases hil : i < 8
    ·rw [Mv (show i < ps.length by omega)] at hgo
     obtain ⟨p, hp⟩ : ∃ p, p = ps.getD i default := ⟨_, rfl⟩
     have hp2 : ps.getD (i : Int).toNat default = p := hp.symm
     rw [← hp] at hgo
     have hi8 : (ps.map fun n : Nat => AV.int .i64 n) = NL ps := rfl
     cases hbd : w'.bad with
     | true =>
      rw [hbd] at g1
      rw [Mp _ _ hbd] at hgo
      repeat' (first
       | refine qS ?_ | refine qN ?_ | refine Jh (enc := fun n : Nat => AV.int .i64 n) p rfl rfl hpl (by omega) (by omega) hp2 rfl rfl ?_ | refine Ej ?_
       | refine Bj ?_ (hr := by exact g1) | refine Ag (hun) (fun _ => ?_) (fun _ => ?_) | refine Ad (hun) ?_ | refine qQb ?_ | refine Ab (fun _ => ?_) (fun _ => ?_)
       | refine Ax fun _ => ?_)
      exact ⟨.inl rfl, w', hgo, ⟨by rw [gav, hbd]; exact g1, g0, gm, gn, by rw [if_neg gne]; exact g5⟩, gne, by omega, gfr⟩
     | false =>
      rw [hbd] at g1
      simp only [Gh] at hgo
      unfold Hj at hgo
      rw [if_neg (by simp [hbd])] at hgo
      by_cases hpn : n ≤ p
      ·rw [if_pos hpn] at hgo
       repeat' (first
        | refine qS ?_ | refine qN ?_ | refine Jh (enc := fun n : Nat => AV.int .i64 n) p rfl rfl hpl (by omega) (by omega) hp2 rfl rfl ?_ | refine Ej ?_
        | refine Bj ?_ (hr := by exact g1) | refine Cr ?_ (hr := by exact g1) | refine Ag (hun) (fun _ => ?_) (fun _ => ?_) | refine Ad (hun) ?_ | refine qQb ?_
        | refine Ab (fun _ => ?_) (fun _ => ?_) | refine Ax fun _ => ?_)
       refine ⟨hil, _, hgo, ⟨by rw [gav]; rfl, g0, gm, gn, by rw [if_neg gne]; exact g5⟩, gne, by show w'.nodes.length ≤ _; omega, fun j h1 h2 h3 h4 => ?_, rfl, rfl, rfl, rfl, by show AV.int _ _ = AV.int _ _; congr 1, trivial⟩
       rw [Ck _ _ h3]
       exact gfr j h1 h2 h3 h4
      rw [if_neg hpn] at hgo
      by_cases hp0 : p = 0
      ·rw [if_pos hp0] at hgo
       repeat' (first
        | refine qS ?_ | refine qN ?_ | refine Jh (enc := fun n : Nat => AV.int .i64 n) p rfl rfl hpl (by omega) (by omega) hp2 rfl rfl ?_ | refine Ej ?_
        | refine Bj ?_ (hr := by exact g1) | refine Ag (hun) (fun _ => ?_) (fun _ => ?_) | refine Ad (hun) ?_ | refine qQb ?_ | refine Ab (fun _ => ?_) (fun _ => ?_)
        | refine Ax fun _ => ?_)
       exact ⟨hil, w', hgo, ⟨by rw [gav, hbd]; exact g1, g0, gm, gn, by rw [if_neg gne]; exact g5⟩, gne, by omega, gfr, rfl, rfl, rfl, rfl, by show AV.int _ _ = AV.int _ _; congr 1, trivial⟩
      rw [if_neg hp0] at hgo
      rw [if_neg (by decide)] at hgo
      have hrec := Aik (k - 1) (by omega) t f l n hl hn p (frm + i * 8 ^ 1) (by omega) H2 w' ⟨by rw [gav, hbd]; exact g1, g0, gm, gn, by rw [if_neg gne]; exact g5⟩ gne hbd (by omega)
      repeat' (first
       | refine qS ?_ | refine qN ?_ | refine Jh (enc := fun n : Nat => AV.int .i64 n) p rfl rfl hpl (by omega) (by omega) hp2 rfl rfl ?_ | refine Ej ?_
       | refine Bj ?_ (hr := by exact g1) | refine Og hrec rfl rfl rfl ?_ | refine Ag (hun) (fun _ => ?_) (fun _ => ?_) | refine Ad (hun) ?_ | refine qQb ?_
       | refine Ab (fun _ => ?_) (fun _ => ?_) | refine Ax fun _ => ?_)
      rintro u H3 ⟨rfl, hwt, hct, hnn, hfr⟩
      repeat' (first | refine qS ?_ | refine qN ?_ | refine qQb ?_ | refine Ab (fun _ => ?_) (fun _ => ?_) | refine Ax fun _ => ?_)
      refine ⟨hil, _, hgo, hwt, hnn, by omega, fun j h1 h2 h3 h4 => by rw [hfr j (by omega) h2 h3 h4]; exact gfr j h1 h2 h3 h4, rfl, rfl, rfl, rfl, by show AV.int _ _ = AV.int _ _; congr 1, trivial⟩
    ·have hin : i = 8 := by omega
     rw [Bm (by omega)] at hgo
     simp only [Gh] at hgo
     repeat' (first | refine qS ?_ | refine qN ?_ | refine qQb ?_ | refine Ab (fun _ => ?_) (fun _ => ?_) | refine Ax fun _ => ?_)
     exact ⟨.inr rfl, w', hgo, ⟨by rw [gav]; exact g1, g0, gm, gn, by rw [if_neg gne]; exact g5⟩, gne, by omega, gfr⟩
   rintro ex T2 H2 ⟨hex, w', hgo2, hwat, gne, gcnt, gfr⟩
   rw [hgo2]
   rcases hex with rfl | rfl
   ·exact ⟨Or.inr rfl, _, rfl, rfl, hwat, gcnt, gne, gfr⟩
   ·exact ⟨Or.inl rfl, _, rfl, rfl, hwat, gcnt, gne, gfr⟩
theorem Aig (k : Nat) (hk : 1000042 ≤ k) (t f : Bool) (l : List UInt8) (n : Nat) (hl : l.length < 1000000) (hn : 64 * n ≤ l.length) (at0 frm : Nat) (hf : frm + 8 * 64 ≤ 512) (H : Heap) (w : WS) (hw : WAt t f l n H w) (he : w.nodes = []) (hb : w.bad = false) (hcount : w.nodes.length + 73 < 1000) :
  ∃ u H', CF k Ia 3 [.ptr 1 1 1 5 0 0, .int .i64 at0, .int .i64 (2 : Nat), .int .i64 frm] H = some (u, H') ∧ (u = .tup [] ∧ WAt t f l n H' (Dz l n 2 at0 frm w) ∧ (Dz l n 2 at0 frm w).nodes.length ≤ w.nodes.length + 73 ∧ ((Dz l n 2 at0 frm w).bad = false → (Dz l n 2 at0 frm w).nodes ≠ []) ∧ ∀ j, j < 3 → j ≠ 0 → j ≠ 1 → j ≠ 5 → H' j = H j) := by
 obtain ⟨hw1, hw0, hm, hnl, hw5⟩ := hw
 have hat := bU (k - 1) (by omega) t f l n at0 2 hl hn
 have hun := Aah (k - 1) (by omega)
 have hpl := dR l n at0 2
 have hgo : Dz l n 2 at0 frm w = Hz l n 2 at0 frm (Dz l n 1) w := rfl
 obtain ⟨⟨⟨v, ps⟩, is⟩, hx⟩ : ∃ x, x = atP l n at0 2 := ⟨_, rfl⟩
 unfold Hz at hgo
 rw [← hx] at hat hpl hgo
 simp only at hpl hgo
 unfold Nod.av at hat
 simp only at hat
 obtain ⟨a1, a2, a3, a4, a5, a6, a7, a8, hps⟩ : ∃ a1 a2 a3 a4 a5 a6 a7 a8, ps = [a1, a2, a3, a4, a5, a6, a7, a8] := by
  match ps, hpl with
  | [a1, a2, a3, a4, a5, a6, a7, a8], _ => exact ⟨a1, a2, a3, a4, a5, a6, a7, a8, rfl⟩
 rw [hps] at hat
 have hct : FnV (CF (k - 1)) Cm [.islc false true 0 [], .int .i64 at0] (.bool false) := cD (k - 1) (by omega) false true 0 at0
 have hav : Ew w.nodes = .islc false true 0 [] := by unfold Ew; rw [if_pos he]
 rw [hav] at hw1
 rw [if_pos he] at hw5
 refine fni (by omega) Kb rfl ?_
 unfold Ht
 cases is with
 | false =>
  rw [if_pos (.inl rfl)] at hgo
  rw [hgo]
  repeat' (first
   | refine qS ?_ | refine qN ?_ | refine Ej ?_ | refine Bj ?_ (hr := by exact hw1) | refine Ad hat ?_ | refine Iz (hl := by kernel_rfl) ?_
   | refine Cr ?_ (hr := by exact hw1) | refine qQb ?_ | refine Ab (fun _ => ?_) (fun _ => ?_) | refine Ax fun _ => ?_)
  refine ⟨Or.inr rfl, _, rfl, rfl, ⟨by rw [hav]; rfl, hw0, hm, hnl, by rw [if_pos he]; exact hw5⟩, by simp, (fun h => by cases h), (fun j h1 h2 h3 h4 => ?_)⟩
  have e1 : ∀ (H : Heap) b, H.upd 1 b j = H j := fun H b => Ck H b h3
  have e2 : ∀ (H : Heap) b, H.upd 3 b j = H j := fun H b => Ck H b (by omega)
  simp only [Heap.newRow, Heap.setRow, El, e1, e2]
 | true =>
  cases hc : w.nodes.any (at0 == ·) with
  | true =>
   rw [he] at hc
   cases hc
  | false =>
   rw [hc] at hgo
   rw [if_neg (by simp)] at hgo
   repeat' (first
    | refine qS ?_ | refine qN ?_ | refine Ej ?_ | refine Bj ?_ (hr := by exact hw1) | refine Ad hat ?_ | refine Ad hct ?_ | refine Iz (hl := by kernel_rfl) ?_
    | refine Cr ?_ (hr := by exact hw1) | refine Pa rfl rfl rfl rfl rfl rfl (fun _ => ?_) | refine qQb ?_ | refine Ab (fun _ => ?_) (fun _ => ?_) | refine Ax fun _ => ?_)
   have e5 : NL (w.nodes ++ [at0]) = NL w.nodes ++ [.int .i64 at0] := by simp [NL]
   have hav1 : Ew (w.nodes ++ [at0]) = .slc 5 1 (w.nodes.length + 1) 1 0 (w.nodes.length + 1) none := by unfold Ew; rw [if_neg (by simp)]; simp
   refine W.mono (Q := fun ex T' H' => (ex = .ret ∨ ex = .exit 0) ∧ ∃ w', Dz l n 2 at0 frm w = w' ∧ WAt t f l n H' w' ∧ w'.nodes ≠ [] ∧ w'.nodes.length ≤ w.nodes.length + 73 ∧ ∀ j, j < 3 → j ≠ 0 → j ≠ 1 → j ≠ 5 → H' j = H j) ?_ ?_
   ·refine Fx 8 (fun i T' H' => ∃ w', Dz l n 2 at0 frm w = Gh n 2 frm (Dz l n 1) (ps.drop i) i w' ∧ WAt t f l n H' w' ∧ w'.nodes ≠ [] ∧ w'.nodes.length ≤ w.nodes.length + 1 + i * 9 ∧ (∀ j, j < 3 → j ≠ 0 → j ≠ 1 → j ≠ 5 → H' j = H j) ∧
      Has T' [(0, .ptr 1 1 1 5 0 0), (2, .int .i64 (2 : Nat)), (3, .int .i64 frm), (51, .agg (NL ps)), (52, .int .i64 (i : Nat))]) ⟨⟨w.m, w.nodes ++ [at0], w.bad⟩, hgo, ⟨?_, hw0, hm, by simp; omega, ?_⟩, by simp, by simp, ?_, rfl, rfl, rfl, by rw [hps]; rfl, rfl, trivial⟩ (by omega) ?_
    ·rw [hav1, he]
     show (⟨1, false, .row 5 [.agg [_, _, _, .slc 5 ((H 5).gen + 1) 1 1 0 1 none, _]]⟩ : Blk) = _
     rw [hw5]
     rfl
    ·rw [if_neg (by simp), e5, he]
     show (⟨(H 5).gen + 1, false, .row 1 [.int .i64 at0]⟩ : Blk) = _
     rw [hw5]
     rfl
    ·intro j h1 h2 h3 h4
     have e1 : ∀ (H : Heap) b, H.upd 1 b j = H j := fun H b => Ck H b h3
     have e2 : ∀ (H : Heap) b, H.upd 3 b j = H j := fun H b => Ck H b (by omega)
     have e3 : ∀ (H : Heap) b, H.upd (3 + 1) b j = H j := fun H b => Ck H b (by omega)
     have e4 : ∀ (H : Heap) b, H.upd 5 b j = H j := fun H b => Ck H b h4
     have e6 : ∀ (H : Heap) b, H.upd (3 + 2) b j = H j := fun H b => Ck H b (by omega)
     simp only [Heap.newRow, Heap.setRow, El, e1, e2, e3, e4, e6]
    clear hw1 hw0 hw5 hat hct hgo hav hav1 e5 hc
    rintro i T H2 hi ⟨w', hgo, ⟨g1, g0, gm, gn, g5⟩, gne, gcnt, gfr, hT⟩
    rw [if_neg gne] at g5
    have gav : Ew w'.nodes = .slc 5 1 w'.nodes.length 1 0 w'.nodes.length none := by unfold Ew; rw [if_neg gne]
    rw [gav] at g1
    rw [hT.eq]
    simp only [over]
    by_cases hil : i < 8
    ·rw [Mv (show i < ps.length by omega)] at hgo
     obtain ⟨p, hp⟩ : ∃ p, p = ps.getD i default := ⟨_, rfl⟩
     have hp2 : ps.getD (i : Int).toNat default = p := hp.symm
     rw [← hp] at hgo
     have hi8 : (ps.map fun n : Nat => AV.int .i64 n) = NL ps := rfl
     cases hbd : w'.bad with
     | true =>
      rw [hbd] at g1
      rw [Mp _ _ hbd] at hgo
      repeat' (first
       | refine qS ?_ | refine qN ?_ | refine Jh (enc := fun n : Nat => AV.int .i64 n) p rfl rfl hpl (by omega) (by omega) hp2 rfl rfl ?_ | refine Ej ?_
       | refine Bj ?_ (hr := by exact g1) | refine Ag (hun) (fun _ => ?_) (fun _ => ?_) | refine Ad (hun) ?_ | refine qQb ?_ | refine Ab (fun _ => ?_) (fun _ => ?_)
       | refine Ax fun _ => ?_)
      exact ⟨.inl rfl, w', hgo, ⟨by rw [gav, hbd]; exact g1, g0, gm, gn, by rw [if_neg gne]; exact g5⟩, gne, by omega, gfr⟩
     | false =>
      rw [hbd] at g1
      simp only [Gh] at hgo
      unfold Hj at hgo
      rw [if_neg (by simp [hbd])] at hgo
      by_cases hpn : n ≤ p
      ·rw [if_pos hpn] at hgo
       repeat' (first
        | refine qS ?_ | refine qN ?_ | refine Jh (enc := fun n : Nat => AV.int .i64 n) p rfl rfl hpl (by omega) (by omega) hp2 rfl rfl ?_ | refine Ej ?_
        | refine Bj ?_ (hr := by exact g1) | refine Cr ?_ (hr := by exact g1) | refine Ag (hun) (fun _ => ?_) (fun _ => ?_) | refine Ad (hun) ?_ | refine qQb ?_
        | refine Ab (fun _ => ?_) (fun _ => ?_) | refine Ax fun _ => ?_)
       refine ⟨hil, _, hgo, ⟨by rw [gav]; rfl, g0, gm, gn, by rw [if_neg gne]; exact g5⟩, gne, by show w'.nodes.length ≤ _; omega, fun j h1 h2 h3 h4 => ?_, rfl, rfl, rfl, rfl, by show AV.int _ _ = AV.int _ _; congr 1, trivial⟩
       rw [Ck _ _ h3]
       exact gfr j h1 h2 h3 h4
      rw [if_neg hpn] at hgo
      by_cases hp0 : p = 0
      ·rw [if_pos hp0] at hgo
       repeat' (first
        | refine qS ?_ | refine qN ?_ | refine Jh (enc := fun n : Nat => AV.int .i64 n) p rfl rfl hpl (by omega) (by omega) hp2 rfl rfl ?_ | refine Ej ?_
        | refine Bj ?_ (hr := by exact g1) | refine Ag (hun) (fun _ => ?_) (fun _ => ?_) | refine Ad (hun) ?_ | refine qQb ?_ | refine Ab (fun _ => ?_) (fun _ => ?_)
        | refine Ax fun _ => ?_)
       exact ⟨hil, w', hgo, ⟨by rw [gav, hbd]; exact g1, g0, gm, gn, by rw [if_neg gne]; exact g5⟩, gne, by omega, gfr, rfl, rfl, rfl, rfl, by show AV.int _ _ = AV.int _ _; congr 1, trivial⟩
      rw [if_neg hp0] at hgo
      rw [if_neg (by decide)] at hgo
      have hrec := Aii (k - 1) (by omega) t f l n hl hn p (frm + i * 8 ^ 2) (by omega) H2 w' ⟨by rw [gav, hbd]; exact g1, g0, gm, gn, by rw [if_neg gne]; exact g5⟩ gne hbd (by omega)
      repeat' (first
       | refine qS ?_ | refine qN ?_ | refine Jh (enc := fun n : Nat => AV.int .i64 n) p rfl rfl hpl (by omega) (by omega) hp2 rfl rfl ?_ | refine Ej ?_
       | refine Bj ?_ (hr := by exact g1) | refine Og hrec rfl rfl rfl ?_ | refine Ag (hun) (fun _ => ?_) (fun _ => ?_) | refine Ad (hun) ?_ | refine qQb ?_
       | refine Ab (fun _ => ?_) (fun _ => ?_) | refine Ax fun _ => ?_)
      rintro u H3 ⟨rfl, hwt, hct, hnn, hfr⟩
      repeat' (first | refine qS ?_ | refine qN ?_ | refine qQb ?_ | refine Ab (fun _ => ?_) (fun _ => ?_) | refine Ax fun _ => ?_)
      refine ⟨hil, _, hgo, hwt, hnn, by omega, fun j h1 h2 h3 h4 => by rw [hfr j (by omega) h2 h3 h4]; exact gfr j h1 h2 h3 h4, rfl, rfl, rfl, rfl, by show AV.int _ _ = AV.int _ _; congr 1, trivial⟩
    ·have hin : i = 8 := by omega
     rw [Bm (by omega)] at hgo
     simp only [Gh] at hgo
     repeat' (first | refine qS ?_ | refine qN ?_ | refine qQb ?_ | refine Ab (fun _ => ?_) (fun _ => ?_) | refine Ax fun _ => ?_)
     exact ⟨.inr rfl, w', hgo, ⟨by rw [gav]; exact g1, g0, gm, gn, by rw [if_neg gne]; exact g5⟩, gne, by omega, gfr⟩
   rintro ex T2 H2 ⟨hex, w', hgo2, hwat, gne, gcnt, gfr⟩
   rw [hgo2]
   rcases hex with rfl | rfl
   ·exact ⟨Or.inr rfl, _, rfl, rfl, hwat, gcnt, fun _ => gne, gfr⟩
   ·exact ⟨Or.inl rfl, _, rfl, rfl, hwat, gcnt, fun _ => gne, gfr⟩
end Go.Proofs.Ytkaiiopoilpjeaa

