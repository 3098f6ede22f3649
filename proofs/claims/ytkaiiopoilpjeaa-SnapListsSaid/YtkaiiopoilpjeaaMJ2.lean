/- Lemmas. -/
import Derived.Test.YtkaiiopoilpjeaaMJ1
set_option linter.unusedSimpArgs false
set_option linter.unusedVariables false
set_option maxRecDepth 10000
set_option maxHeartbeats 16000000
namespace Go.Proofs.Ytkaiiopoilpjeaa
open Go.AI
attribute [local irreducible] aops Bb Cj Dm aop W WO
theorem Zt (l : List Nat) (a : Nat) : NL (l ++ [a]) = NL l ++ [.int .i64 a] := by simp [NL]
theorem xR {k : Nat} {recs : List Rec} {f' : Bool} {s' : Nat} {root0 size0 : Nat} {v0 v2 v5 : AV} {T : Tmps} {H : Heap} (hk : 1000000 ≤ k) (hs : s' = 8 ∨ recs = []) (hl : recs.length < 1000)
  (h1 : H 1 = ⟨1, false, .row 1 (NL [root0])⟩) (h2 : H 2 = ⟨1, false, .row 1 (NL [size0])⟩)
  (hT : Has T [(0, v0), (2, v2), (5, v5), (7, .slc 1 1 1 1 0 1 none), (8, .slc 2 1 1 1 0 1 none), (91, .islc false f' s' (recs.map Rec.av)), (92, .int .i64 recs.length), (93, .int .i64 0)]) :
  W (Bb (CF k) noX 0 k (.loop Zg) T H) (fun ex T' H' => ex = .exit 0 ∧ H' 0 = H 0 ∧ H' 9 = H 9 ∧ H' 1 = ⟨1, false, .row 1 (NL (root0 :: recs.map Rec.root))⟩ ∧ H' 2 = ⟨1, false, .row 1 (NL (size0 :: recs.map Rec.size))⟩ ∧
   Has T' [(0, v0), (2, v2), (5, v5), (7, .slc 1 1 (recs.length + 1) 1 0 (recs.length + 1) none), (8, .slc 2 1 (recs.length + 1) 1 0 (recs.length + 1) none)]) := by
 refine Fx recs.length (fun i T' H' => H' 0 = H 0 ∧ H' 9 = H 9 ∧ H' 1 = ⟨1, false, .row 1 (NL (root0 :: (recs.take i).map Rec.root))⟩ ∧ H' 2 = ⟨1, false, .row 1 (NL (size0 :: (recs.take i).map Rec.size))⟩ ∧
   Has T' [(0, v0), (2, v2), (5, v5), (7, .slc 1 1 (i + 1) 1 0 (i + 1) none), (8, .slc 2 1 (i + 1) 1 0 (i + 1) none), (91, .islc false f' s' (recs.map Rec.av)), (92, .int .i64 recs.length), (93, .int .i64 (i : Nat))]) ⟨rfl, rfl, h1, h2, hT⟩ (by omega) ?_
 rintro i T H' hi ⟨g0, g9, g1, g2, hT⟩
 rw [hT.eq]
 simp only [over]
 unfold Zg
 by_cases hil : i < recs.length
 ·obtain rfl : s' = 8 := hs.resolve_right (fun h => by rw [h] at hil; simp at hil)
  obtain ⟨⟨b1, b2, b3, b4, b5, b6, b7, b8⟩, hr⟩ : ∃ r, r = recs.getD i default := ⟨_, rfl⟩
  have hri : recs[i] = ⟨b1, b2, b3, b4, b5, b6, b7, b8⟩ := by rw [hr]; simp [hil]
  have he2 : (recs.map Rec.av)[(i : Int).toNat]? = some (.agg [.int .i64 b1, .int .i64 b2, .int .i64 b3, .int .i64 b4, .int .i64 b5, .int .i64 b6, .int .i64 b7, .int .i64 b8]) := by
   rw [Bd, Cd, Ai hil, hri]; rfl
  have hn1 : (NL (root0 :: (recs.take i).map Rec.root)).length = i + 1 := by rw [Be]; simp; omega
  have hn2 : (NL (size0 :: (recs.take i).map Rec.size)).length = i + 1 := by rw [Be]; simp; omega
  have e1 : NL (root0 :: (recs.take (i + 1)).map Rec.root) = NL (root0 :: (recs.take i).map Rec.root) ++ [.int .i64 b4] := by
   rw [Bh hil, hri, Br, ← Hf]; exact Zt _ _
  have e2 : NL (size0 :: (recs.take (i + 1)).map Rec.size) = NL (size0 :: (recs.take i).map Rec.size) ++ [.int .i64 b5] := by
   rw [Bh hil, hri, Br, ← Hf]; exact Zt _ _
  repeat' (first
   | refine qS ?_ | refine Dv rfl rfl (by omega) he2 rfl rfl ?_ | refine Xz rfl rfl rfl (by exact g1) hn1 rfl (by omega) rfl rfl ?_
   | refine Xz rfl rfl rfl (by exact g2) hn2 rfl (by omega) rfl rfl ?_ | refine Lh ?_ (hl := by kernel_rfl) | refine Mf ?_ (hl := by kernel_rfl) | refine qQb ?_
   | refine Ab (fun _ => ?_) (fun _ => ?_) | refine Ax fun _ => ?_)
  exact ⟨hil, g0, g9, by rw [e1]; rfl, by rw [e2]; rfl, rfl, rfl, rfl, rfl, rfl, rfl, rfl, by show AV.int _ _ = AV.int _ _; congr 1, trivial⟩
 ·have hin : i = recs.length := by omega
  repeat' (first | refine qQb ?_ | refine Ab (fun _ => ?_) (fun _ => ?_) | refine Ax fun _ => ?_)
  subst hin
  rw [Bp] at g1 g2
  exact ⟨rfl, g0, g9, g1, g2, rfl, rfl, rfl, rfl, rfl, trivial⟩
def Gc (l : List UInt8) : List (Nat × Nat) → List WS → List WS × Option Nat
 | [], ws => (ws, none)
 | (r, z) :: ps, ws => match goP l r with
  | none => (ws, some r)
  | some w => if Oh w.m z = true then (ws, some r) else Gc l ps (ws ++ [w])
def mH (H : Heap) (s : Sup) (slot : Nat) (rv bv tv : AV) : Prop := H 0 = ⟨1, false, .row 9 [.agg [.int .i64 s.gen, .int .i64 s.blocks, .int .i64 s.root, .int .i64 s.size, .int .i64 s.first, .int .i64 slot, rv, bv, tv]]⟩
def Zl (n : Nat) : AV := if n = 0 then .islc false true 0 [] else .slc 9 1 n 1 0 n none
def Pt (f : Bool) (l : List UInt8) (H : Heap) (ws : List WS) : Prop := if ws = [] then (H 9).gen = 0 else H 9 = ⟨1, false, .row 1 (ws.map (WS.iv f l))⟩
theorem uM {k : Nat} {l : List UInt8} {f : Bool} {ps : List (Nat × Nat)} {s : Sup} {slot : Nat} {rv bv v5 : AV} {T : Tmps} {H : Heap} (hk : 1000060 ≤ k) (hd : Dev l) (hl : ps.length < 1000) (hz : ∀ p ∈ ps, p.2 ≤ 512)
  (h1 : H 1 = ⟨1, false, .row 1 (NL (ps.map Prod.fst))⟩) (h2 : H 2 = ⟨1, false, .row 1 (NL (ps.map Prod.snd))⟩) (h0 : mH H s slot rv bv (.islc false true 0 [])) (h9 : (H 9).gen = 0)
  (hT : Has T [(0, .islc false f 1 (BL l)), (2, .ptr 0 1 1 9 0 0), (5, v5), (8, .slc 2 1 ps.length 1 0 ps.length none), (108, .slc 1 1 ps.length 1 0 ps.length none), (109, .int .i64 ps.length), (110, .int .i64 0)]) :
  W (Bb (CF k) noX 0 k (.loop Yx) T H) (fun ex T' H' => (ex = .exit 2 ∧ (Gc l ps []).2 = none ∧ (Gc l ps []).1.length = ps.length ∧ mH H' s slot rv bv (Zl ps.length) ∧ Pt f l H' (Gc l ps []).1 ∧ Has T' [(0, .islc false f 1 (BL l)), (2, .ptr 0 1 1 9 0 0), (5, v5)]) ∨
   (ex = .ret ∧ ∃ r : Nat, (Gc l ps []).2 = some r ∧ T' 2 = .nilp ∧ T' 3 = .int .i64 r ∧ T' 4 = .int .i64 6)) := by
 refine Fx ps.length (fun i T' H' => ∃ ws, ws.length = i ∧ Gc l ps [] = Gc l (ps.drop i) ws ∧ H' 1 = ⟨1, false, .row 1 (NL (ps.map Prod.fst))⟩ ∧ H' 2 = ⟨1, false, .row 1 (NL (ps.map Prod.snd))⟩ ∧ mH H' s slot rv bv (Zl i) ∧ Pt f l H' ws ∧
   Has T' [(0, .islc false f 1 (BL l)), (2, .ptr 0 1 1 9 0 0), (5, v5), (8, .slc 2 1 ps.length 1 0 ps.length none), (108, .slc 1 1 ps.length 1 0 ps.length none), (109, .int .i64 ps.length), (110, .int .i64 (i : Nat))])
  ⟨[], rfl, rfl, h1, h2, h0, by unfold Pt; rw [if_pos rfl]; exact h9, hT⟩ (by omega) ?_
 rintro i T H hi ⟨ws, hwl, hgo, g1, g2, g0, g9, hT⟩
 rw [hT.eq]
 simp only [over]
 unfold Yx
 have hln1 : (NL (ps.map Prod.fst)).length = ps.length := by rw [Be]; simp
 have hln2 : (NL (ps.map Prod.snd)).length = ps.length := by rw [Be]; simp
 by_cases hil : i < ps.length
 ·rw [Cg hil] at hgo
  obtain ⟨⟨r, z⟩, hrz⟩ : ∃ p, p = ps[i] := ⟨_, rfl⟩
  rw [← hrz] at hgo
  have hz2 : z ≤ 512 := by have := hz ps[i] (Bz hil); rw [← hrz] at this; exact this
  have hr1 : (NL (ps.map Prod.fst))[0 + (i : Int).toNat]? = some (.int .i64 r) := by
   simp only [NL, Da, Bd, Fh, Cd, Ai hil, ← hrz, Le]; rfl
  have hr2 : (NL (ps.map Prod.snd))[0 + (i : Int).toNat]? = some (.int .i64 z) := by
   simp only [NL, Da, Bd, Fh, Cd, Ai hil, ← hrz, Le]; rfl
  have hgoC := xM k (by omega) f l hd r
  simp only [Gc] at hgo
  cases hg : goP l r with
  | none =>
   rw [hg] at hgo hgoC
   repeat' (first
    | refine qS ?_ | refine qN ?_ | refine Ep rfl rfl (by exact g1) hln1 (by omega) (by omega) (by omega) rfl rfl ?_ | refine Lu rfl (by exact g1) hln1 hr1 rfl rfl rfl ?_
    | refine Ad hgoC ?_ | refine qQb ?_ | refine Ab (fun _ => ?_) (fun _ => ?_) | refine Ax fun _ => ?_)
   exact .inr ⟨rfl, r, by rw [hgo], rfl, rfl, rfl⟩
  | some w =>
   rw [hg] at hgo hgoC
   obtain ⟨hwf, _⟩ := oW hd hg
   have hgoC' : FnV (CF k) aX [.islc false f 1 (BL l), .int .i64 r] (.tup [.iptr false [.islc false f 1 (BL l), .int .i64 (nb l : Nat), .islc false false 1 (NL w.m), Hi false w.nodes, .bool w.bad], .bool true]) := hgoC
   have hby := Acy k (by omega) false false w.m z (by rw [hwf.1]; omega) (by rw [hwf.1]; exact hz2)
   cases hb : Oh w.m z with
   | true =>
    rw [hb] at hby
    simp only [hb, if_true] at hgo
    repeat' (first
     | refine qS ?_ | refine qN ?_ | refine Ep rfl rfl (by exact g1) hln1 (by omega) (by omega) (by omega) rfl rfl ?_
     | refine Ep rfl rfl (by exact g2) hln2 (by omega) (by omega) (by omega) rfl rfl ?_ | refine Lu rfl (by exact g1) hln1 hr1 rfl rfl rfl ?_
     | refine Lu rfl (by exact g2) hln2 hr2 rfl rfl rfl ?_ | refine Dh ?_ | refine Ad hgoC' ?_ | refine Ad hby ?_ | refine qQb ?_
     | refine Ab (fun _ => ?_) (fun _ => ?_) | refine Ax fun _ => ?_)
    exact .inr ⟨rfl, r, by rw [hgo], rfl, rfl, rfl⟩
   | false =>
    rw [hb] at hby
    simp only [hb, Ap, Bx] at hgo
    have hwn : (WS.iv f l w).norefs = true := rfl
    unfold mH Zl at g0
    unfold Pt at g9
    by_cases hi0 : i = 0
    ·subst hi0
     obtain rfl : ws = [] := Eb.1 hwl
     rw [if_pos rfl] at g0 g9
     repeat' (first
      | refine qS ?_ | refine qN ?_ | refine Ep rfl rfl (by exact g1) hln1 (by omega) (by omega) (by omega) rfl rfl ?_
      | refine Ep rfl rfl (by exact g2) hln2 (by omega) (by omega) (by omega) rfl rfl ?_ | refine Lu rfl (by exact g1) hln1 hr1 rfl rfl rfl ?_
      | refine Lu rfl (by exact g2) hln2 hr2 rfl rfl rfl ?_ | refine Dh ?_ | refine Ad hgoC' ?_ | refine Ad hby ?_ | refine Bj ?_ (hr := by exact g0)
      | refine Pa (e := WS.iv f l w) rfl rfl rfl rfl rfl rfl (fun _ => ?_) | refine Cr ?_ (hr := by exact g0) | refine qQb ?_ | refine Ab (fun _ => ?_) (fun _ => ?_)
      | refine Ax fun _ => ?_)
     refine ⟨hil, [w], rfl, hgo, g1, g2, by show (⟨1, false, .row 9 [.agg [.int .i64 s.gen, .int .i64 s.blocks, .int .i64 s.root, .int .i64 s.size, .int .i64 s.first, .int .i64 slot, rv, bv, .slc 9 ((H 9).gen + 1) 1 1 0 1 none]]⟩ : Blk) = _; rw [g9]; rfl, ?_, rfl, rfl, rfl, rfl, rfl, rfl, by show AV.int _ _ = AV.int _ _; congr 1, trivial⟩
     unfold Pt
     rw [if_neg (by simp)]
     show (⟨(H 9).gen + 1, false, _⟩ : Blk) = _
     rw [g9]; rfl
    ·have hne : ws ≠ [] := fun h => by rw [h] at hwl; exact hi0 hwl.symm
     rw [if_neg hi0] at g0
     rw [if_neg hne] at g9
     have hlw : (ws.map (WS.iv f l)).length = i := by rw [Ak]; exact hwl
     repeat' (first
      | refine qS ?_ | refine qN ?_ | refine Ep rfl rfl (by exact g1) hln1 (by omega) (by omega) (by omega) rfl rfl ?_
      | refine Ep rfl rfl (by exact g2) hln2 (by omega) (by omega) (by omega) rfl rfl ?_ | refine Lu rfl (by exact g1) hln1 hr1 rfl rfl rfl ?_
      | refine Lu rfl (by exact g2) hln2 hr2 rfl rfl rfl ?_ | refine Dh ?_ | refine Ad hgoC' ?_ | refine Ad hby ?_ | refine Bj ?_ (hr := by exact g0)
      | refine It (e := WS.iv f l w) rfl rfl rfl (by exact g9) hlw rfl (by omega) rfl rfl (fun _ => ?_) | refine Cr ?_ (hr := by exact g0) | refine qQb ?_
      | refine Ab (fun _ => ?_) (fun _ => ?_) | refine Ax fun _ => ?_)
     refine ⟨hil, ws ++ [w], by simp [hwl], hgo, g1, g2, rfl, ?_, rfl, rfl, rfl, rfl, rfl, rfl, by show AV.int _ _ = AV.int _ _; congr 1, trivial⟩
     unfold Pt
     rw [if_neg (by simp), Br]
     rfl
 ·have hin : i = ps.length := by omega
  rw [hin, Ik] at hgo
  simp only [Gc] at hgo
  repeat' (first | refine qS ?_ | refine qN ?_ | refine qQb ?_ | refine Ab (fun _ => ?_) (fun _ => ?_) | refine Ax fun _ => ?_)
  rw [hgo]
  exact .inl ⟨rfl, rfl, by rw [hwl, hin], hin ▸ g0, g9, rfl, rfl, rfl, trivial⟩
theorem kU {n level frm B : Nat} {rec : Nat → Nat → WS → WS} (hr : ∀ p f w, (rec p f w).nodes.length ≤ w.nodes.length + B) : ∀ (ps : List Nat) (i : Nat) (w : WS), (Gh n level frm rec ps i w).nodes.length ≤ w.nodes.length + ps.length * B
 | [], _, w => by simp [Gh]
 | p :: r, i, w => by
  have h1 := kU (n := n) (level := level) (frm := frm) hr r (i + 1) (Hj n level frm rec w i p)
  have h2 : (Hj n level frm rec w i p).nodes.length ≤ w.nodes.length + B := by
   unfold Hj
   split
   ·omega
   split
   ·simp
   split
   ·omega
   split
   ·simp
   ·exact hr _ _ _
  simp only [Gh, As, Cp, Ady]
  omega
theorem bG {l : List UInt8} {n level at0 frm B : Nat} {rec : Nat → Nat → WS → WS} (hr : ∀ p f w, (rec p f w).nodes.length ≤ w.nodes.length + B) (w : WS) : (Hz l n level at0 frm rec w).nodes.length ≤ w.nodes.length + (1 + 8 * B) := by
 unfold Hz
 split
 ·simp
 ·have h1 := kU (n := n) (level := level) (frm := frm) hr (atP l n at0 level).1.ptr 0 { w with nodes := w.nodes ++ [at0] }
  rw [dR] at h1
  simp only [Ar, As, Dl] at h1
  omega
theorem yP (l : List UInt8) (n at0 frm : Nat) (w : WS) : (Dz l n 2 at0 frm w).nodes.length ≤ w.nodes.length + 73 := by
 have h0 : ∀ p f w, (Dz l n 0 p f w).nodes.length ≤ w.nodes.length + 1 := fun p f w => bG (B := 0) (rec := fun _ _ w => w) (fun _ _ w => Ao _) w
 have h1 : ∀ p f w, (Dz l n 1 p f w).nodes.length ≤ w.nodes.length + 9 := fun p f w => bG (B := 1) h0 w
 exact bG (B := 9) h1 w
theorem qL {l : List UInt8} {root : Nat} {w : WS} (hd : Dev l) (h : goP l root = some w) : w.fits (nb l) := by
 refine ⟨(oW hd h).1, ?_⟩
 unfold goP at h
 split at h
 ·cases h; decide
 ·split at h
  ·cases h
  ·cases h
   have := yP l (nb l) root 0 ws0
   have e : ws0.nodes.length = 0 := rfl
   omega
theorem dF {l : List UInt8} (hd : Dev l) : ∀ (ps : List (Nat × Nat)) (ws : List WS), (∀ w ∈ ws, w.fits (nb l)) → ∀ w ∈ (Gc l ps ws).1, w.fits (nb l)
 | [], ws, h => h
 | (r, z) :: ps, ws, h => by
  simp only [Gc]
  cases hg : goP l r with
  | none => exact h
  | some w =>
   simp only
   split
   ·exact h
   ·refine dF hd ps _ fun x hx => ?_
    rcases Bg.1 hx with hx | hx
    ·exact h x hx
    ·rw [Bw.1 hx]; exact qL hd hg
theorem Ur {b : List UInt8} (h : (Fl b).2 = 0) : (Fl b).1.ok := by
 unfold Fl at h ⊢
 split
 ·rename_i h1
  rw [if_pos h1] at h
  exact absurd h h1
 ·rename_i h1
  rw [if_neg h1] at h
  split
  ·assumption
  ·rename_i h2
   rw [if_neg h2] at h
   cases h
theorem gP {l : List UInt8} {s : Sup} {i : Nat} (h : Pw l = some (s, i)) : s.ok ∧ s.blocks = nb l ∧ i ≤ 1 := by
 unfold Pw qZ at h
 split at h
 ·rename_i h1
  split at h
  ·rename_i h2
   cases h
   exact ⟨Ur h2.1.1, h2.1.2, by omega⟩
  ·cases h
   exact ⟨Ur h1.1, h1.2, by omega⟩
 ·split at h
  ·rename_i h2
   cases h
   exact ⟨Ur h2.1, h2.2, by omega⟩
  ·cases h
structure Img where
 sup : Sup
 slot : Nat
 recs : List Rec
 blocks : List Nat
 trees : List WS
def Img.cs (t f : Bool) (l : List UInt8) (x : Img) : List AV := [.int .i64 x.sup.gen, .int .i64 x.sup.blocks, .int .i64 x.sup.root, .int .i64 x.sup.size, .int .i64 x.sup.first, .int .i64 x.slot, rIv false x.recs, Hi false x.blocks, .islc t false 1 (x.trees.map (WS.iv f l))]
def mE (l : List UInt8) (s : Sup) (i : Nat) (c : CS) (ws : List WS) : Except (Nat × Nat) Img := if Li (nb l) c.blocks ws ≠ 0 then .error (Li (nb l) c.blocks ws, 6) else .ok ⟨s, i, c.l, c.blocks, ws⟩
def Ie (s : Sup) (c : CS) : List (Nat × Nat) := (s.root, s.size) :: c.l.map fun r => (r.root, r.size)
def kT (l : List UInt8) (s : Sup) (i : Nat) (c : CS) : Except (Nat × Nat) Img := if c.bad ≠ 0 then .error (c.bad, 7) else
 match (Gc l (Ie s c) []).2 with
 | some r => .error (r, 6)
 | none => mE l s i c (Gc l (Ie s c) []).1
def Wj (l : List UInt8) : Except (Nat × Nat) Img := match Pw l with
 | none => .error (0, 8)
 | some (s, i) => kT l s i (Db l 64 s.first cs0)
def Ln (f : Bool) (l : List UInt8) : Except (Nat × Nat) Img → AV
 | .ok x => .tup [.iptr false (x.cs false f l), .int .i64 0, .int .i64 0]
 | .error (a, e) => .tup [.nilp, .int .i64 a, .int .i64 e]
theorem rIvF (l : List Rec) : ∃ f' s', rIv false l = .islc false f' s' (l.map Rec.av) ∧ (s' = 8 ∨ l = []) := by
 unfold rIv
 by_cases h : l = []
 ·rw [if_pos h, h]; exact ⟨_, _, rfl, .inr rfl⟩
 ·rw [if_neg h]; exact ⟨_, _, rfl, .inl rfl⟩
theorem Jk (l : List Nat) : ∃ f' s', Hi false l = .islc false f' s' (NL l) ∧ (s' = 1 ∨ l = []) := by
 unfold Hi
 by_cases h : l = []
 ·rw [if_pos h, h]; exact ⟨_, _, rfl, .inr rfl⟩
 ·rw [if_neg h]; exact ⟨_, _, rfl, .inl rfl⟩
theorem Abv {out f : Bool} {l : List UInt8} {H : Heap} {s : Sup} {slot : Nat} {recs : List Rec} {blocks : List Nat} {ws : List WS} (h : mH H s slot (rIv false recs) (Hi false blocks) (Zl ws.length)) (h9 : Pt f l H ws) (hn : ws ≠ []) (n : Nat) :
  fz out (n + 4) H (.ptr 0 1 1 9 0 0) = .iptr (!out) (Img.cs (!out) f l ⟨s, slot, recs, blocks, ws⟩) := by
 obtain ⟨f1, s1, hr, _⟩ := rIvF recs
 obtain ⟨f2, s2, hb, _⟩ := Jk blocks
 unfold Img.cs
 unfold mH at h
 unfold Pt at h9
 simp only
 have hlen : ws.length ≠ 0 := fun e => hn (Eb.1 e)
 unfold Zl at h
 rw [if_neg hlen, hr, hb] at h
 rw [if_neg hn] at h9
 rw [hr, hb]
 have e1 : fz out (n + 3 + 1) H (.ptr 0 1 1 9 0 0) = .iptr (!out) [.int .i64 s.gen, .int .i64 s.blocks, .int .i64 s.root, .int .i64 s.size, .int .i64 s.first, .int .i64 slot, .islc false f1 s1 (recs.map Rec.av), .islc false f2 s2 (NL blocks), fz out (n + 3) H (.slc 9 1 ws.length 1 0 ws.length none)] := by
  show (match H.row 0 1 1 9 with | some es => _ | none => _) = _
  rw [Ek (ver := 1) h rfl]
  cases out <;> rfl
 have e2 : (ws.map (WS.iv f l)).map (fz out (n + 2) H) = ws.map (WS.iv f l) := by
  rw [Fh]
  exact Bn fun w _ => by cases out <;> rfl
 rw [e1, Ph (Ek h9 (by simp)) (by omega), Cc, Aj (by simp), e2]
theorem Agv (k : Nat) (hk : 1000070 ≤ k) (f : Bool) (l : List UInt8) (hd : Dev l) : FnV (CF k) Px [.islc false f 1 (BL l)] (Ln f l (Wj l)) := by
 have hn := hd.nb
 have hck := Mj (k - 1) (by omega) false f l hd
 have hpk := nC (k - 1) (by omega) false f l hd
 refine fnk (by omega) cU rfl ?_
 unfold open_Look Wj
 unfold vN at hpk
 cases hp : Pw l with
 | none =>
  rw [hp] at hpk
  have hpk' : FnV (CF (k - 1)) Oj [.islc false f 1 (BL l)] (.tup [.agg [.int .i64 0, .int .i64 0, .int .i64 0, .int .i64 0, .int .i64 0], .int .i64 0, .int .i64 8]) := hpk
  repeat' (first
   | refine qS ?_ | refine qN ?_ | refine Ag (hck) (fun _ => ?_) (fun _ => ?_) | refine Ad (hck) ?_ | refine Ag (hpk') (fun _ => ?_) (fun _ => ?_) | refine Ad (hpk') ?_
   | refine qQb ?_ | refine Ab (fun _ => ?_) (fun _ => ?_) | refine Ax fun _ => ?_)
  exact ⟨Or.inr rfl, _, rfl, rfl⟩
 | some si =>
  obtain ⟨s, i⟩ := si
  rw [hp] at hpk
  obtain ⟨hsok, hsb, hi1⟩ := gP hp
  have hfol := Aca (k - 1) (by omega) f l hd s.first
  obtain ⟨c, hc⟩ : ∃ c, c = Db l 64 s.first cs0 := ⟨_, rfl⟩
  have hcf := iL l s.first
  simp only
  rw [← hc] at hfol hcf ⊢
  obtain ⟨hf1, hf2, hf3, hf4, hf5⟩ := hcf
  obtain ⟨f1, s1, hr, hs1⟩ := rIvF c.l
  obtain ⟨f2, s2, hb, hs2⟩ := Jk c.blocks
  unfold chCs at hfol
  rw [hr, hb] at hfol
  obtain ⟨g, b, r, z, fi⟩ := s
  have hpk' : FnV (CF (k - 1)) Oj [.islc false f 1 (BL l)] (.tup [.agg [.int .i64 g, .int .i64 b, .int .i64 r, .int .i64 z, .int .i64 fi], .int .i64 (i : Nat), .int .i64 0]) := hpk
  unfold kT
  by_cases hbad : c.bad ≠ 0
  ·rw [if_pos hbad]
   repeat' (first
    | refine qS ?_ | refine qN ?_ | refine Dh ?_ | refine Ej ?_ | refine Ag (hck) (fun _ => ?_) (fun _ => ?_) | refine Ad (hck) ?_
    | refine Ag (hpk') (fun _ => ?_) (fun _ => ?_) | refine Ad (hpk') ?_ | refine Ag (hfol) (fun _ => ?_) (fun _ => ?_) | refine Ad (hfol) ?_ | refine qQb ?_
    | refine Ab (fun _ => ?_) (fun _ => ?_) | refine Ax fun _ => ?_)
   exact ⟨Or.inr rfl, _, rfl, rfl⟩
  rw [if_neg hbad]
  have hbad0 : c.bad = 0 := Cw.1 hbad
  have hlr : (c.l.map Rec.av).length = c.l.length := Ak _
  repeat' (first
   | refine qS ?_ | refine qN ?_ | refine Dh ?_ | refine Ej ?_ | refine Ba (n := c.l.length) rfl hlr rfl rfl ?_ | refine Lh ?_ (hl := by kernel_rfl)
   | refine Mf ?_ (hl := by kernel_rfl) | refine Ag (hck) (fun _ => ?_) (fun _ => ?_) | refine Ad (hck) ?_ | refine Ag (hpk') (fun _ => ?_) (fun _ => ?_)
   | refine Ad (hpk') ?_ | refine Ag (hfol) (fun _ => ?_) (fun _ => ?_) | refine Ad (hfol) ?_ | refine qQb ?_ | refine Ab (fun _ => ?_) (fun _ => ?_)
   | refine Ax fun _ => ?_)
  have hpl : (Ie ⟨g, b, r, z, fi⟩ c).length = c.l.length + 1 := by unfold Ie; simp
  have hcl : c.l.length < 900 := by omega
  refine W.mono (xR (k := k - 1) (recs := c.l) (f' := f1) (s' := s1) (root0 := r) (size0 := z) (v0 := .islc false f 1 (BL l)) (v2 := .ptr 0 1 1 9 0 0) (v5 := .int .i64 (nb l : Nat)) (by omega) hs1 (by omega) ?_ ?_ ?_) ?_
  ·rfl
  ·rfl
  ·exact ⟨rfl, rfl, rfl, rfl, rfl, rfl, rfl, rfl, trivial⟩
  rintro ex T2 H2 ⟨rfl, g0, g9, g1, g2, hT2⟩
  rw [hT2.eq]
  simp only [over]
  show W _ _
  repeat' (first | refine qS ?_ | refine qN ?_ | refine qQb ?_ | refine Ab (fun _ => ?_) (fun _ => ?_) | refine Ax fun _ => ?_)
  refine W.mono (uM (k := k - 1) (l := l) (f := f) (ps := Ie ⟨g, b, r, z, fi⟩ c) (s := ⟨g, b, r, z, fi⟩) (slot := i) (rv := .islc false f1 s1 (c.l.map Rec.av)) (bv := .islc false f2 s2 (NL c.blocks)) (v5 := .int .i64 (nb l : Nat)) (by omega) hd (by omega) ?_ ?_ ?_ ?_ ?_ ?_) ?_
  ·intro p hp2
   unfold Ie at hp2
   rcases Au.1 hp2 with rfl | hp2
   ·exact hsok.2.2.1
   ·obtain ⟨x, hx, rfl⟩ := Ca.1 hp2
    exact (hf3 x hx).2.2.2.1
  ·have e : (Ie ⟨g, b, r, z, fi⟩ c).map Prod.fst = r :: c.l.map Rec.root := by unfold Ie; simp [Function.comp_def]
   rw [e]; exact g1
  ·have e : (Ie ⟨g, b, r, z, fi⟩ c).map Prod.snd = z :: c.l.map Rec.size := by unfold Ie; simp [Function.comp_def]
   rw [e]; exact g2
  ·exact g0.trans rfl
  ·rw [g9]; rfl
  ·rw [hpl]
   exact ⟨rfl, rfl, rfl, rfl, rfl, rfl, rfl, trivial⟩
  rintro ex T3 H3 (⟨rfl, ht2, htl, i0, i9, hT3⟩ | ⟨rfl, rr, ht2, h2, h3, h4⟩)
  ·rw [ht2, hT3.eq]
   simp only [over]
   show W _ _
   obtain ⟨ws, hws⟩ : ∃ ws, ws = (Gc l (Ie ⟨g, b, r, z, fi⟩ c) []).1 := ⟨_, rfl⟩
   have hfits : ∀ w ∈ ws, w.fits (nb l) := by rw [hws]; exact dF hd _ _ (fun _ h => by cases h)
   rw [← hws] at htl i9 ⊢
   have hne : ws ≠ [] := fun h => by rw [h, hpl] at htl; simp at htl
   rw [← hr, ← hb] at i0
   have i0' := i0
   rw [← htl] at i0'
   have hfz := fun out => Abv (out := out) i0' i9 hne 2
   have hcl2 := Aes (k - 1) (by omega) true f l (nb l) c.blocks ws (.int .i64 g) (.int .i64 b) (.int .i64 r) (.int .i64 z) (.int .i64 fi) (.int .i64 i) (rIv false c.l) (by omega) (fun a ha => (hf2 a ha).2) (by omega) hfits (by omega)
   unfold mE
   by_cases hc0 : Li (nb l) c.blocks ws = 0
   ·rw [if_neg (by omega)]
    repeat' (first
     | refine qS ?_ | refine qN ?_ | refine Ad hcl2 ?_ rfl (by show [fz false 6 _ (.ptr 0 1 1 9 0 0), _] = _; exact Ay (fun z => [z, AV.int .i64 (nb l : Nat)]) (hfz false))
     | refine qQb ?_ | refine Ab (fun _ => ?_) (fun _ => ?_) | refine Ax fun _ => ?_)
    exact ⟨Or.inr rfl, .tup [.ptr 0 1 1 9 0 0, .int .i64 0, .int .i64 0], rfl, Ay (fun z => AV.tup [z, .int .i64 0, .int .i64 0]) (Abv (out := true) i0' i9 hne 1)⟩
   ·rw [if_pos hc0]
    repeat' (first
     | refine qS ?_ | refine qN ?_ | refine Ad hcl2 ?_ rfl (by show [fz false 6 _ (.ptr 0 1 1 9 0 0), _] = _; exact Ay (fun z => [z, AV.int .i64 (nb l : Nat)]) (hfz false))
     | refine qQb ?_ | refine Ab (fun _ => ?_) (fun _ => ?_) | refine Ax fun _ => ?_)
    exact ⟨Or.inr rfl, _, rfl, rfl⟩
  ·rw [ht2]
   refine ⟨Or.inr rfl, .tup [.nilp, .int .i64 rr, .int .i64 6], ?_, rfl⟩
   show Jb T3 H3 [.tmp 2, .tmp 3, .tmp 4] = _
   simp only [Jb, ares, pI, List.mapM_nil, h2, h3, h4]
   rfl
theorem xV (k : Nat) (hk : 1000070 ≤ k) (t f : Bool) (s : Nat) (l : List UInt8) (hl : l.length < 1000000) (hd : ¬ devB l.length) : FnV (CF k) Px [.islc t f s (BL l)] (.tup [.nilp, .int .i64 0, .int .i64 2]) := by
 have hck := Tw (k - 1) (by omega) t f s l hl
 rw [if_neg hd] at hck
 refine fnk (by omega) cU rfl ?_
 unfold open_Look
 repeat' (first | refine qS ?_ | refine qN ?_ | refine Ag (hck) (fun _ => ?_) (fun _ => ?_) | refine Ad (hck) ?_ | refine qQb ?_ | refine Ab (fun _ => ?_) (fun _ => ?_) | refine Ax fun _ => ?_)
 exact ⟨Or.inr rfl, _, rfl, rfl⟩
theorem yM {l : List UInt8} {a e : Nat} (h : Wj l = .error (a, e)) : e = 6 ∨ e = 7 ∨ e = 8 := by
 unfold Wj at h
 split at h
 ·cases h; omega
 ·unfold kT at h
  split at h
  ·cases h; omega
  ·split at h
   ·cases h; omega
   ·unfold mE at h
    split at h <;> cases h
    omega
theorem Ace {α : Type} (p : α → Bool) (i : Nat) : idxL p [] i = -1 := rfl
theorem Agx (k : Nat) (hk : 1000020 ≤ k) (t f : Bool) (s : Nat) (recs : List Rec) (a0 a1 a2 a3 a4 a5 : AV) (id : Int) (hs : s = 8 ∨ recs = []) (hl : recs.length < 1000000) (ha : ([a0, a1, a2, a3, a4, a5].all AV.norefs) = true) :
  FnV (CF k) cT [.agg [a0, a1, a2, a3, a4, a5, .islc t f s (recs.map Rec.av)], .int .i64 id] (if He recs id < 0 then .tup [.int .i64 0, .bool false] else .tup [.int .i64 (He recs id), .bool true]) := by
 have hi : FnV (CF (k - 1)) Cy [.islc t f s (recs.map Rec.av), .fn Nj [.iptr true [.int .i64 id]]] (.int .i64 (He recs id)) := by
  by_cases hn : recs = []
  ·subst hn
   exact Wd (k - 1) (by omega) t f s _
  ·obtain rfl : s = 8 := hs.resolve_right hn
   exact Yy (k - 1) (by omega) t f recs Nj [.iptr true [.int .i64 id]] (fun r => decide ((r.id : Int) = id ∧ r.kind = 0)) hl (fun _ _ => rfl) (fun i hi => Adf (k - 2) (by omega) _ id)
 refine fnk (by omega) sH rfl ?_
 unfold bW
 by_cases h : He recs id < 0
 ·rw [if_pos h]
  repeat' (first | refine Ag (hi) (fun _ => ?_) (fun _ => ?_) | refine Ad (hi) ?_ | refine qQb ?_ | refine Ab (fun _ => ?_) (fun _ => ?_))
  exact ⟨Or.inr rfl, _, rfl, rfl⟩
 ·rw [if_neg h]
  repeat' (first | refine Ag (hi) (fun _ => ?_) (fun _ => ?_) | refine Ad (hi) ?_ | refine qQb ?_ | refine Ab (fun _ => ?_) (fun _ => ?_))
  exact ⟨Or.inr rfl, _, rfl, rfl⟩
end Go.Proofs.Ytkaiiopoilpjeaa
