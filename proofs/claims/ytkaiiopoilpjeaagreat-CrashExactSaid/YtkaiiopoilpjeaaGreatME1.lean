/- Lemmas. -/
import Derived.Test.YtkaiiopoilpjeaaGreatMJ2
import Derived.Test.YtkaiiopoilpjeaaGreatMJ4
import Derived.Test.YtkaiiopoilpjeaaGreatMD1
set_option linter.unusedSimpArgs false
set_option linter.unusedVariables false
set_option maxRecDepth 10000
namespace Go.Proofs.YtkaiiopoilpjeaaGreat
open Go.AI
structure SnapV where
 id : Nat
 parent : Nat
 sectors : List (List UInt8)
 frames : Nat
 digest : Nat
structure ViewV where
 head : List (List UInt8)
 snaps : List SnapV
 opens : List SnapV
def secB (l : List UInt8) (a : Nat) : List UInt8 := if a = 0 then List.replicate 64 0 else blk l a
def Nw (l : List UInt8) (m : List Nat) (size : Nat) : List (List UInt8) := (m.take size).map (secB l)
def Ys (l : List UInt8) (p : Rec × WS) : SnapV := ⟨p.1.id, p.1.parent, Nw l p.2.m p.1.size, p.1.frames, p.1.digest⟩
def Tg (p : Rec × WS) : Bool := decide (p.1.kind = 1)
def Gq (l : List UInt8) (x : Img) : ViewV :=
 ⟨Nw l (x.trees.headD ws0).m x.sup.size, ((x.recs.zip x.trees.tail).filter fun p => !Tg p).map (Ys l), ((x.recs.zip x.trees.tail).filter Tg).map (Ys l)⟩
theorem Aox {l : List UInt8} {a : Nat} (h : a ≠ 0 → 64 * (a + 1) ≤ l.length) : (secB l a).length = 64 := by
 unfold secB
 split
 ·simp
 ·rename_i h0; exact bV (h h0)
def Hq (r : List UInt8) : AV := .islc false false 1 (BL r)
def Vj (rs : List (List UInt8)) : AV := .islc false false 1 (rs.map Hq)
def SnapV.av (s : SnapV) : AV := .agg [.int .i64 s.id, .int .i64 s.parent, Vj s.sectors, .int .i64 s.frames, .int .i64 s.digest]
def bS (l : List SnapV) : AV := if l = [] then .islc false true 0 [] else .islc false false 5 (l.map SnapV.av)
def ViewV.cs (v : ViewV) : List AV := [Vj v.head, bS v.snaps, bS v.opens]
def Ajv : List UInt8 → Except (Nat × Nat) Img → AV
 | l, .ok x => .tup [.agg (Gq l x).cs, .int .i64 0]
 | _, .error (_, e) => .tup [.agg [.islc false true 0 [], .islc false true 0 [], .islc false true 0 []], .int .i64 e]
theorem Wo (l : List SnapV) : ∃ f s, bS l = .islc false f s (l.map SnapV.av) ∧ (s = 5 ∨ l = []) := by
 unfold bS
 by_cases h : l = []
 ·rw [if_pos h, h]; exact ⟨_, _, rfl, .inr rfl⟩
 ·rw [if_neg h]; exact ⟨_, _, rfl, .inl rfl⟩
end Go.Proofs.YtkaiiopoilpjeaaGreat
set_option maxRecDepth 10000
set_option maxHeartbeats 16000000
namespace Go.AI
section
variable {cf : Dk} {xf : ExtF} {base : Nat} {T : Tmps} {H : Heap} {QO : Tmps → Heap → Prop} {log : List FP} {g : Option (Nat × Bool)} {un : List Nat} {r : List SOper} {d : Nat}
theorem Ajl {site s gn j v j2 g2 : Nat} {ro : Bool} {x y : SArg} {es : List AV} {e e' : AV} {cap2 : Option Nat} {H1 : Heap} {K : List Nat} (hx : x.ev T = .slc j gn v s 0 v .none) (hy : y.ev T = .slc j2 g2 1 s 0 1 cap2) (h2 : H j2 = ⟨g2, ro, .row s [e]⟩) (hab : Fe H [e] = some ([e'], H1, K)) (hr : H1 j = ⟨gn, false, .row s es⟩) (hv : es.length = v) (hm : v + 1 ≤ 68719476736)
  (hw : Aj T g = some true) (hl : un = [])
  (h : ∀ fp, WO (aops cf xf base r (log ++ [fp]) (T.upd d (.slc j gn (v + 1) s 0 (v + 1) .none)) (H1.upd j ⟨gn, false, .row s (es ++ [e'])⟩)) QO) :
  WO (aops cf xf base (⟨some d, .app site s x y, g, un⟩ :: r) log T H) QO := by
 subst hl
 refine Bf (v := .slc j gn (v + 1) s 0 (v + 1) .none) (H' := H1.upd j ⟨gn, false, .row s (es ++ [e'])⟩) (fp := ⟨[j2] ++ K ++ [j], K ++ [j], false⟩) hw ?_ rfl (h _)
 have e1 : Cy H s (.slc j2 g2 1 s 0 1 cap2) = some ([e], [j2]) := by
  simp [Cy, Fv (ver := 1) h2 rfl]
 simp only [aop, hx, hy, Jo, e1, hab, Ad, Ab]
 simp only [Dv, Ik, Az, Cn, Kh hr hv]
 rw [if_pos ⟨trivial, by omega, by simpa [Iy] using hm⟩]
 rw [if_neg (by simp)]
 simp only [Ab, Ao, De, Cq]
 rw [if_pos ⟨trivial, trivial⟩, Ho hr]
 rfl
end
end Go.AI
namespace Go.Proofs.YtkaiiopoilpjeaaGreat
open Go.AI
theorem Asf {n : Nat} {H : Heap} {j g ver s off len : Nat} {cap : Option Nat} {es : List AV} (hr : H.row j g ver s = some es) : vis (n + 1) H (.slc j g ver s off len cap) = j :: ((es.drop off).take len).flatMap (vis n H) := by
 simp only [vis, hr]
theorem Aks (m : Nat) (H : Heap) (l : List UInt8) : (BL l).flatMap (vis (m + 1) H) = [] := by
 induction l with
 | nil => rfl
 | cons c l ih => rw [oI, Cj, ih]; rfl
theorem pY {H : Heap} {j g v : Nat} {ro : Bool} {l : List UInt8} (hr : H j = ⟨g, ro, .row 1 (BL l)⟩) (hv : l.length = v) :
  Fe H [.slc j g v 1 0 v none] = some ([.islc false false 1 (BL l)], H.upd j ⟨g, true, .row 1 (BL l)⟩, [j]) := by
 have hrow : H.row j g v 1 = some (BL l) := Fv hr (by simpa using hv)
 have hz : fz true 6 H (.slc j g v 1 0 v none) = .islc false false 1 (BL l) := Afm (n := 4) hr hv
 have hvis : vis 6 H (.slc j g v 1 0 v none) = [j] := by
  rw [Asf (n := 5) hrow, Cb, show (BL l).take v = BL l from Ai (by simp; omega), Aks 4]
 have hf : [AV.slc j g v 1 0 v none].map (fz true deep H) = [.islc false false 1 (BL l)] := by
  show [fz true 6 H _] = _
  rw [hz]
 have hk : [AV.slc j g v 1 0 v none].flatMap (vis deep H) = [j] := by
  show vis 6 H _ ++ [] = _
  rw [hvis]; rfl
 unfold Fe
 rw [if_neg (by simp [Ca, AV.norefs]), hf, hk]
 show some (_, H.upd j ⟨(H j).gen, true, (H j).st⟩, _) = _
 rw [hr]
attribute [local irreducible] aops Br Cp Dp aop W WO
theorem Aaa {k : Nat} {l : List UInt8} {f t2 f2 : Bool} {m : List Nat} {T : Tmps} {H : Heap} (hk : 1000000 ≤ k) (hd : Dev l) (hm : ∀ a ∈ m, a < nb l) (hml : m.length < 100000)
  (h1 : H 1 = ⟨1, false, .row 1 []⟩)
  (hT : Has T [(0, .islc false f 1 (BL l)), (7, .slc 1 1 0 1 0 0 none), (13, .islc t2 f2 1 (NL m)), (14, .int .i64 m.length), (15, .int .i64 0)]) :
  W (Br (CF k) noX 0 k (.loop Yr) T H) (fun ex T' H' => ex = .exit 0 ∧ H' 1 = ⟨1, false, .row 1 ((m.map (secB l)).map Hq)⟩ ∧ T' 7 = .slc 1 1 m.length 1 0 m.length none) := by
 refine Fj m.length (fun i T' H' => H' 1 = ⟨1, false, .row 1 (((m.take i).map (secB l)).map Hq)⟩ ∧ Has T' [(0, .islc false f 1 (BL l)), (7, .slc 1 1 i 1 0 i none), (13, .islc t2 f2 1 (NL m)), (14, .int .i64 m.length), (15, .int .i64 (i : Nat))]) ⟨h1, hT⟩ (by omega) ?_
 rintro i T H hi ⟨g1, hT⟩
 rw [hT.eq]
 simp only [over]
 unfold Yr
 by_cases hlt : i < m.length
 ·obtain ⟨a, ha⟩ : ∃ a, a = m[i] := ⟨_, rfl⟩
  have han : a < nb l := by rw [ha]; exact hm _ (Bw hlt)
  have hle := hd.le han
  have he2 : (NL m)[(i : Int).toNat]? = some (.int .i64 (a : Nat)) := by
   rw [Bd]; unfold NL; rw [Bp, Aa hlt, ← ha]; rfl
  have hst : ((m.take (i + 1)).map (secB l)).map Hq = ((m.take i).map (secB l)).map Hq ++ [Hq (secB l a)] := by
   rw [Av hlt, ← ha]; simp
  have hlen : (((m.take i).map (secB l)).map Hq).length = i := by simp; omega
  have hz0 : List.replicate 64 (AV.int .u8 0) = BL (List.replicate 64 0) := by unfold BL; rw [Ij]; rfl
  rw [hst]
  generalize ((m.take i).map (secB l)).map Hq = es at *
  by_cases h0 : a = 0
  ·have h0' : (a : Int) = 0 := by omega
   have hsb : secB l a = List.replicate 64 0 := by unfold secB; rw [if_pos h0]
   repeat' (first
    | refine qS ?_ | refine Da rfl rfl (by omega) he2 rfl rfl ?_ | refine Un 64 rfl rfl rfl (by decide) rfl rfl rfl ?_
    | refine Ajl rfl rfl rfl (pY (l := List.replicate 64 0) (by exact Bo (fun z => (⟨_, false, .row 1 z⟩ : Blk)) hz0) rfl) (by exact g1) hlen (by omega) rfl rfl (fun _ => ?_)
    | refine qQba ?_ | refine Ac (fun _ => ?_) (fun _ => ?_) | refine Bl fun _ => ?_)
   exact ⟨hlt, by rw [hsb]; rfl, rfl, rfl, rfl, rfl, by show AV.int _ _ = AV.int _ _; congr 1, trivial⟩
  ·have h0' : (a : Int) ≠ 0 := by omega
   have hsb : secB l a = blk l a := by unfold secB; rw [if_neg h0]
   have hbl : (blk l a).length = 64 := bV hle
   have hof := Th k (by omega) false f l a hd.1 hle
   have hrl : (List.replicate 64 (AV.int .u8 0)).length = 64 := rfl
   have hml2 : (BL (blk l a)).length = 64 := by simpa using hbl
   have hrow : (List.replicate 64 (AV.int .u8 0)).take 0 ++ BL (blk l a) ++ (List.replicate 64 (AV.int .u8 0)).drop (0 + 64) = BL (blk l a) := by
    rw [Nr, Dd, Ce (by simp), Bv]
   repeat' (first
    | refine qS ?_ | refine Da rfl rfl (by omega) he2 rfl rfl ?_ | refine Un 64 rfl rfl rfl (by decide) rfl rfl rfl ?_ | refine Ih (hof _ _) rfl rfl rfl ?_
    | refine aR (m := BL (blk l a)) (es := List.replicate 64 (AV.int .u8 0)) rfl rfl (.inl rfl) (Lz _) rfl hrl (by omega) hml2 rfl rfl ?_
    | refine Ajl rfl rfl rfl (pY (l := blk l a) (by exact Bo (fun z => (⟨_, false, .row 1 z⟩ : Blk)) hrow) hbl) (by exact g1) hlen (by omega) rfl rfl (fun _ => ?_)
    | refine qQba ?_ | refine Ac (fun _ => ?_) (fun _ => ?_) | refine Bl fun _ => ?_)
   exact ⟨hlt, by rw [hsb]; rfl, rfl, rfl, rfl, rfl, by show AV.int _ _ = AV.int _ _; congr 1, trivial⟩
 ·have hin : i = m.length := by omega
  subst hin
  rw [Ch] at g1
  repeat' (first | refine qQb ?_ | refine Ac (fun _ => ?_) (fun _ => ?_) | refine Bl fun _ => ?_)
  exact ⟨rfl, g1, rfl⟩
theorem aC (k : Nat) (hk : 1000010 ≤ k) (f t2 f2 : Bool) (l : List UInt8) (hd : Dev l) (m : List Nat) (hm : ∀ a ∈ m, a < nb l) (hml : m.length < 100000) (size : Nat) (hs : size ≤ m.length) :
  FnV (CF k) Zo [.islc false f 1 (BL l), .islc t2 f2 1 (NL m), .int .i64 size] (Vj (Nw l m size)) := by
 refine fnk (by omega) pK rfl ?_
 unfold view_sectors
 have hsl : ((NL m).drop 0).take (size - 0) = NL (m.take size) := by rw [Cb, tT]; unfold NL; rw [Ja]
 have hln : (((NL m).drop 0).take (size - 0)).length = size := by rw [hsl, Bm, Bc]; omega
 repeat' (first
  | refine qS ?_ | refine Cr (n := m.length) (a := 0) (b := size) rfl (.inl rfl) (Bm m) rfl (Ev rfl) (by omega) hs rfl rfl ?_ | refine Bh (n := size) rfl hln rfl rfl ?_
  | refine qQb ?_ | refine Ac (fun _ => ?_) (fun _ => ?_) | refine Bl fun _ => ?_)
 have hml2 : (m.take size).length = size := by rw [Bc]; omega
 refine W.mono (Aaa (k := k - 1) (l := l) (f := f) (t2 := t2) (f2 := f2 && decide (size = m.length)) (m := m.take size) (by omega) hd (fun a ha => hm a (Bs ha)) (by omega) rfl ⟨rfl, rfl, ?_, ?_, rfl, trivial⟩) ?_
 ·exact Bo (AV.islc _ _ 1) hsl
 ·rw [hml2]; rfl
 rintro ex T2 H2 ⟨rfl, g1, h7⟩
 rw [Has.eq (T := T2) (ps := [(7, _)]) ⟨h7, trivial⟩]
 simp only [over]
 show W _ _
 repeat' (first | refine qQb ?_ | refine Ac (fun _ => ?_) (fun _ => ?_) | refine Bl fun _ => ?_)
 refine ⟨Or.inr rfl, _, rfl, ?_⟩
 show fz true (5 + 1) H2 (AV.slc _ _ _ _ _ _ _) = _
 rw [Tf (Fv g1 (by simp)) (by omega), Cb, Ai (by simp)]
 unfold Vj Nw
 simp only [Ka]
 congr 1
 rw [Ha]
 exact Bk fun _ _ => rfl
end Go.Proofs.YtkaiiopoilpjeaaGreat
set_option maxRecDepth 10000
set_option maxHeartbeats 16000000
namespace Go.Proofs.YtkaiiopoilpjeaaGreat
open Go.AI
def snAv (b n : Nat) : AV := if n = 0 then .islc false true 0 [] else .slc b 1 n 5 0 n none
def SnAt (b : Nat) (H : Heap) (l : List SnapV) : Prop := if l = [] then (H b).gen = 0 else H b = ⟨1, false, .row 5 (l.map SnapV.av)⟩
def Se (l : List UInt8) (ps : List (Rec × WS)) : List SnapV := (ps.filter fun p => !Tg p).map (Ys l)
def Sf (l : List UInt8) (ps : List (Rec × WS)) : List SnapV := (ps.filter Tg).map (Ys l)
attribute [local irreducible] aops Br Cp Dp aop W WO
theorem Ata {k : Nat} {l : List UInt8} {f f' : Bool} {s' : Nat} {recs : List Rec} {ws : List WS} {w0 : WS} {c0 c1 c2 c3 c4 c5 bv hd : AV} {T : Tmps} {H : Heap} (hk : 1000020 ≤ k) (hdv : Dev l) (hs : s' = 8 ∨ recs = []) (hrl : recs.length < 1000) (hwl : ws.length = recs.length)
  (hfit : ∀ w ∈ ws, w.m.length = 512 ∧ ∀ a ∈ w.m, a < nb l) (hsz : ∀ r ∈ recs, r.size ≤ 512)
  (h1 : H 1 = ⟨1, false, .row 3 [.agg [hd, .islc false true 0 [], .islc false true 0 []]]⟩) (h7 : (H 7).gen = 0) (h5 : (H 5).gen = 0)
  (hT : Has T [(0, .islc false f 1 (BL l)), (2, .ptr 0 1 1 3 0 0), (4, .iptr false [c0, c1, c2, c3, c4, c5, .islc false f' s' (recs.map Rec.av), bv, .islc false false 1 ((w0 :: ws).map (WS.iv f l))]), (7, .ptr 1 1 1 3 0 0), (43, .islc false f' s' (recs.map Rec.av)), (44, .int .i64 recs.length), (45, .int .i64 0)]) :
  W (Br (CF k) noX 0 k (.loop pR) T H) (fun ex T' H' => ex = .exit 0 ∧ H' 0 = H 0 ∧ H' 1 = ⟨1, false, .row 3 [.agg [hd, snAv 7 (Se l (recs.zip ws)).length, snAv 5 (Sf l (recs.zip ws)).length]]⟩ ∧ SnAt 7 H' (Se l (recs.zip ws)) ∧ SnAt 5 H' (Sf l (recs.zip ws)) ∧ T' 2 = .ptr 0 1 1 3 0 0 ∧ T' 7 = .ptr 1 1 1 3 0 0) := by
 refine Fj recs.length (fun i T' H' => H' 0 = H 0 ∧ H' 1 = ⟨1, false, .row 3 [.agg [hd, snAv 7 (Se l ((recs.zip ws).take i)).length, snAv 5 (Sf l ((recs.zip ws).take i)).length]]⟩ ∧ SnAt 7 H' (Se l ((recs.zip ws).take i)) ∧ SnAt 5 H' (Sf l ((recs.zip ws).take i)) ∧
   Has T' [(0, .islc false f 1 (BL l)), (2, .ptr 0 1 1 3 0 0), (4, .iptr false [c0, c1, c2, c3, c4, c5, .islc false f' s' (recs.map Rec.av), bv, .islc false false 1 ((w0 :: ws).map (WS.iv f l))]), (7, .ptr 1 1 1 3 0 0), (43, .islc false f' s' (recs.map Rec.av)), (44, .int .i64 recs.length), (45, .int .i64 (i : Nat))])
  ⟨rfl, h1, by unfold SnAt; exact h7, by unfold SnAt; exact h5, hT⟩ (by omega) ?_
 rintro i T H hi ⟨g0, g1, g7, g5, hT⟩
 rw [hT.eq]
 simp only [over]
 unfold pR
 by_cases hlt : i < recs.length
 ·obtain rfl : s' = 8 := hs.resolve_right (fun h => by rw [h] at hlt; simp at hlt)
  have hzl : i < (recs.zip ws).length := by rw [Td]; omega
  have hwi : i < ws.length := by omega
  obtain ⟨w, hw⟩ : ∃ w, w = ws[i] := ⟨_, rfl⟩
  obtain ⟨⟨b1, b2, b3, b4, b5, b6, b7, b8⟩, hr⟩ : ∃ r, r = recs[i] := ⟨_, rfl⟩
  have hzi : (recs.zip ws)[i] = (⟨b1, b2, b3, b4, b5, b6, b7, b8⟩, w) := by rw [List.getElem_zip, ← hr, ← hw]
  have he2 : (recs.map Rec.av)[(i : Int).toNat]? = some (.agg [.int .i64 b1, .int .i64 b2, .int .i64 b3, .int .i64 b4, .int .i64 b5, .int .i64 b6, .int .i64 b7, .int .i64 b8]) := by
   rw [Bd, Bp, Aa hlt, ← hr]; rfl
  have he3 : ((w0 :: ws).map (WS.iv f l))[((i : Int) + 1).toNat]? = some (.iptr false [.islc false f 1 (BL l), .int .i64 (nb l : Nat), .islc false false 1 (NL w.m), Jn false w.nodes, .bool w.bad]) := by
   rw [show ((i : Int) + 1).toNat = i + 1 by omega, Aw, List.getElem?_cons_succ, Bp, Aa hwi, ← hw]; rfl
  have hwf := hfit w (by rw [hw]; exact Bw hwi)
  have hb5 : b5 ≤ 512 := by have := hsz _ (Bw hlt); rw [← hr] at this; exact this
  have hse := aC k (by omega) f false false l hdv w.m hwf.2 (by rw [hwf.1]; omega) b5 (by rw [hwf.1]; exact hb5)
  have hsv : Ys l (⟨b1, b2, b3, b4, b5, b6, b7, b8⟩, w) = ⟨b2, b3, Nw l w.m b5, b7, b8⟩ := rfl
  have hea : (⟨b2, b3, Nw l w.m b5, b7, b8⟩ : SnapV).av = .agg [.int .i64 b2, .int .i64 b3, .islc false false 1 ((Nw l w.m b5).map Hq), .int .i64 b7, .int .i64 b8] := rfl
  unfold Vj at hse
  have htk : (recs.zip ws).take (i + 1) = (recs.zip ws).take i ++ [(⟨b1, b2, b3, b4, b5, b6, b7, b8⟩, w)] := by rw [Av hzl, hzi]
  have hS : Se l ((recs.zip ws).take (i + 1)) = Se l ((recs.zip ws).take i) ++ (if b6 = 1 then [] else [⟨b2, b3, Nw l w.m b5, b7, b8⟩]) := by
   unfold Se
   rw [htk, Gs, Bq]
   congr 1
   by_cases h : b6 = 1
   ·rw [if_pos h, Eh, if_neg (by show ¬ (!decide (b6 = 1)) = true; rw [As h]; decide)]; rfl
   ·rw [if_neg h, Eh, if_pos (by show (!decide (b6 = 1)) = true; rw [Bb h]; rfl)]; rfl
  have hO : Sf l ((recs.zip ws).take (i + 1)) = Sf l ((recs.zip ws).take i) ++ (if b6 = 1 then [⟨b2, b3, Nw l w.m b5, b7, b8⟩] else []) := by
   unfold Sf
   rw [htk, Gs, Bq]
   congr 1
   by_cases h : b6 = 1
   ·rw [if_pos h, Eh, if_pos (show Tg (⟨b1, b2, b3, b4, b5, b6, b7, b8⟩, w) = true from As h)]; rfl
   ·rw [if_neg h, Eh, if_neg (show ¬ Tg (⟨b1, b2, b3, b4, b5, b6, b7, b8⟩, w) = true from fun hh => h (Kq hh))]; rfl
  have hSl : (Se l ((recs.zip ws).take i)).length ≤ i := by
   unfold Se
   rw [Ah]
   exact Ic (Ej _ _) (by rw [Bc]; omega)
  have hOl : (Sf l ((recs.zip ws).take i)).length ≤ i := by
   unfold Sf
   rw [Ah]
   exact Ic (Ej _ _) (by rw [Bc]; omega)
  rw [hS, hO]
  generalize Se l ((recs.zip ws).take i) = S at *
  generalize Sf l ((recs.zip ws).take i) = O at *
  generalize Nw l w.m b5 = R at *
  obtain ⟨sn, hsn⟩ : ∃ n, n = S.length := ⟨_, rfl⟩
  obtain ⟨on, hon⟩ : ∃ n, n = O.length := ⟨_, rfl⟩
  rw [← hsn, ← hon] at g1
  unfold SnAt at g7 g5
  have hsm : (S.map SnapV.av).length = sn := by rw [Ah, hsn]
  have hom : (O.map SnapV.av).length = on := by rw [Ah, hon]
  by_cases hk1 : b6 = 1
  ·have hk1' : (b6 : Int) = 1 := by omega
   rw [if_pos hk1, if_pos hk1, Bv]
   by_cases ho0 : O = []
   ·subst ho0
    obtain rfl : on = 0 := hon
    rw [if_pos rfl] at g5
    have g1' : H 1 = ⟨1, false, .row 3 [.agg [hd, snAv 7 sn, .islc false true 0 []]]⟩ := g1
    repeat' (first
     | refine qS ?_ | refine Da rfl rfl (by omega) he2 rfl rfl ?_ | refine Da rfl rfl (by omega) he3 rfl rfl ?_ | refine Dc ?_ | refine Ae hse ?_
     | refine Iw ?_ (hl := by kernel_rfl) | refine Kz (cs := [.int .i64 b2, .int .i64 b3, .islc false false 1 (R.map Hq), .int .i64 b7, .int .i64 b8]) ?_ (hc := by kernel_rfl)
     | refine Be ?_ (hr := by exact g1')
     | refine Tm (e := .agg [.int .i64 b2, .int .i64 b3, .islc false false 1 (R.map Hq), .int .i64 b7, .int .i64 b8]) rfl rfl rfl rfl rfl rfl (fun _ => ?_)
     | refine Co ?_ (hr := by exact g1') | refine qQba ?_ | refine Ac (fun _ => ?_) (fun _ => ?_) | refine Bl fun _ => ?_)
    refine ⟨hlt, g0, ?_, ?_, ?_, rfl, rfl, rfl, rfl, rfl, rfl, by show AV.int _ _ = AV.int _ _; congr 1, trivial⟩
    ·show (⟨1, false, .row 3 [.agg [hd, snAv 7 sn, .slc 5 ((H 5).gen + 1) 1 5 0 1 none]]⟩ : Blk) = _
     rw [g5, hsn]; rfl
    ·unfold SnAt; exact g7
    ·unfold SnAt
     rw [if_neg (by simp)]
     show (⟨(H 5).gen + 1, false, _⟩ : Blk) = _
     rw [g5]; rfl
   ·rw [if_neg ho0] at g5
    have hon0 : on ≠ 0 := fun h => ho0 (Eg.1 (by omega))
    have hsa : snAv 5 on = .slc 5 1 on 5 0 on none := by unfold snAv; rw [if_neg hon0]
    rw [hsa] at g1
    repeat' (first
     | refine qS ?_ | refine Da rfl rfl (by omega) he2 rfl rfl ?_ | refine Da rfl rfl (by omega) he3 rfl rfl ?_ | refine Dc ?_ | refine Ae hse ?_
     | refine Iw ?_ (hl := by kernel_rfl) | refine Kz (cs := [.int .i64 b2, .int .i64 b3, .islc false false 1 (R.map Hq), .int .i64 b7, .int .i64 b8]) ?_ (hc := by kernel_rfl)
     | refine Be ?_ (hr := by exact g1)
     | refine Lm (e := .agg [.int .i64 b2, .int .i64 b3, .islc false false 1 (R.map Hq), .int .i64 b7, .int .i64 b8]) rfl rfl rfl (by exact g5) hom rfl (by omega) rfl rfl (fun _ => ?_)
     | refine Co ?_ (hr := by exact g1) | refine qQba ?_ | refine Ac (fun _ => ?_) (fun _ => ?_) | refine Bl fun _ => ?_)
    refine ⟨hlt, g0, ?_, ?_, ?_, rfl, rfl, rfl, rfl, rfl, rfl, by show AV.int _ _ = AV.int _ _; congr 1, trivial⟩
    ·have e : (O ++ [(⟨b2, b3, R, b7, b8⟩ : SnapV)]).length = on + 1 := by simp [hon]
     rw [e, ← hsn]; rfl
    ·unfold SnAt; exact g7
    ·unfold SnAt
     rw [if_neg (by simp), Bq]; rfl
  ·have hk1' : (b6 : Int) ≠ 1 := by omega
   rw [if_neg hk1, if_neg hk1, Bv]
   by_cases ho0 : S = []
   ·subst ho0
    obtain rfl : sn = 0 := hsn
    rw [if_pos rfl] at g7
    have g1' : H 1 = ⟨1, false, .row 3 [.agg [hd, .islc false true 0 [], snAv 5 on]]⟩ := g1
    repeat' (first
     | refine qS ?_ | refine Da rfl rfl (by omega) he2 rfl rfl ?_ | refine Da rfl rfl (by omega) he3 rfl rfl ?_ | refine Dc ?_ | refine Ae hse ?_
     | refine Iw ?_ (hl := by kernel_rfl) | refine Kz (cs := [.int .i64 b2, .int .i64 b3, .islc false false 1 (R.map Hq), .int .i64 b7, .int .i64 b8]) ?_ (hc := by kernel_rfl)
     | refine Be ?_ (hr := by exact g1')
     | refine Tm (e := .agg [.int .i64 b2, .int .i64 b3, .islc false false 1 (R.map Hq), .int .i64 b7, .int .i64 b8]) rfl rfl rfl rfl rfl rfl (fun _ => ?_)
     | refine Co ?_ (hr := by exact g1') | refine qQba ?_ | refine Ac (fun _ => ?_) (fun _ => ?_) | refine Bl fun _ => ?_)
    refine ⟨hlt, g0, ?_, ?_, ?_, rfl, rfl, rfl, rfl, rfl, rfl, by show AV.int _ _ = AV.int _ _; congr 1, trivial⟩
    ·show (⟨1, false, .row 3 [.agg [hd, .slc 7 ((H 7).gen + 1) 1 5 0 1 none, snAv 5 on]]⟩ : Blk) = _
     rw [g7, hon]; rfl
    ·unfold SnAt
     rw [if_neg (by simp)]
     show (⟨(H 7).gen + 1, false, _⟩ : Blk) = _
     rw [g7]; rfl
    ·unfold SnAt; exact g5
   ·rw [if_neg ho0] at g7
    have hsn0 : sn ≠ 0 := fun h => ho0 (Eg.1 (by omega))
    have hsa : snAv 7 sn = .slc 7 1 sn 5 0 sn none := by unfold snAv; rw [if_neg hsn0]
    rw [hsa] at g1
    repeat' (first
     | refine qS ?_ | refine Da rfl rfl (by omega) he2 rfl rfl ?_ | refine Da rfl rfl (by omega) he3 rfl rfl ?_ | refine Dc ?_ | refine Ae hse ?_
     | refine Iw ?_ (hl := by kernel_rfl) | refine Kz (cs := [.int .i64 b2, .int .i64 b3, .islc false false 1 (R.map Hq), .int .i64 b7, .int .i64 b8]) ?_ (hc := by kernel_rfl)
     | refine Be ?_ (hr := by exact g1)
     | refine Lm (e := .agg [.int .i64 b2, .int .i64 b3, .islc false false 1 (R.map Hq), .int .i64 b7, .int .i64 b8]) rfl rfl rfl (by exact g7) hsm rfl (by omega) rfl rfl (fun _ => ?_)
     | refine Co ?_ (hr := by exact g1) | refine qQba ?_ | refine Ac (fun _ => ?_) (fun _ => ?_) | refine Bl fun _ => ?_)
    refine ⟨hlt, g0, ?_, ?_, ?_, rfl, rfl, rfl, rfl, rfl, rfl, by show AV.int _ _ = AV.int _ _; congr 1, trivial⟩
    ·have e : (S ++ [(⟨b2, b3, R, b7, b8⟩ : SnapV)]).length = sn + 1 := by simp [hsn]
     rw [e, ← hon]; rfl
    ·unfold SnAt
     rw [if_neg (by simp), Bq]; rfl
    ·unfold SnAt; exact g5
 ·have hin : i = recs.length := by omega
  have htk : (recs.zip ws).take i = recs.zip ws := Ai (by rw [Td]; omega)
  rw [htk] at g1 g7 g5
  repeat' (first | refine qQb ?_ | refine Ac (fun _ => ?_) (fun _ => ?_) | refine Bl fun _ => ?_)
  exact ⟨rfl, g0, g1, g7, g5, rfl, rfl⟩
end Go.Proofs.YtkaiiopoilpjeaaGreat
