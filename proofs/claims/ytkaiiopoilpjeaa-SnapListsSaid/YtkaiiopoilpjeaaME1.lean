/- Lemmas. -/
import Derived.Test.YtkaiiopoilpjeaaMJ2
import Derived.Test.YtkaiiopoilpjeaaMJ4
import Derived.Test.YtkaiiopoilpjeaaMD1
set_option linter.unusedSimpArgs false
set_option linter.unusedVariables false
set_option maxRecDepth 10000
namespace Go.Proofs.Ytkaiiopoilpjeaa
open Go.AI
structure SnapV where
 id : Nat
 parent : Nat
 sectors : List (List UInt8)
 frames : Nat
 digest : Nat
structure ViewV where
 head : List (List UInt8)
 snaps : List SnapV
 opens : List SnapV
def secB (l : List UInt8) (a : Nat) : List UInt8 := if a = 0 then List.replicate 64 0 else blk l a
def Ps (l : List UInt8) (m : List Nat) (size : Nat) : List (List UInt8) := (m.take size).map (secB l)
def Sl (l : List UInt8) (p : Rec × WS) : SnapV := ⟨p.1.id, p.1.parent, Ps l p.2.m p.1.size, p.1.frames, p.1.digest⟩
def Qo (p : Rec × WS) : Bool := decide (p.1.kind = 1)
def Hy (l : List UInt8) (x : Img) : ViewV :=
 ⟨Ps l (x.trees.headD ws0).m x.sup.size, ((x.recs.zip x.trees.tail).filter fun p => !Qo p).map (Sl l), ((x.recs.zip x.trees.tail).filter Qo).map (Sl l)⟩
def Jo (r : List UInt8) : AV := .islc false false 1 (BL r)
def Sy (rs : List (List UInt8)) : AV := .islc false false 1 (rs.map Jo)
def SnapV.av (s : SnapV) : AV := .agg [.int .i64 s.id, .int .i64 s.parent, Sy s.sectors, .int .i64 s.frames, .int .i64 s.digest]
def Pu (l : List SnapV) : AV := if l = [] then .islc false true 0 [] else .islc false false 5 (l.map SnapV.av)
def ViewV.cs (v : ViewV) : List AV := [Sy v.head, Pu v.snaps, Pu v.opens]
def xB : List UInt8 → Except (Nat × Nat) Img → AV
 | l, .ok x => .tup [.agg (Hy l x).cs, .int .i64 0]
 | _, .error (_, e) => .tup [.agg [.islc false true 0 [], .islc false true 0 [], .islc false true 0 []], .int .i64 e]
theorem Abd (l : List SnapV) : ∃ f s, Pu l = .islc false f s (l.map SnapV.av) ∧ (s = 5 ∨ l = []) := by
 unfold Pu
 by_cases h : l = []
 ·rw [if_pos h, h]; exact ⟨_, _, rfl, .inr rfl⟩
 ·rw [if_neg h]; exact ⟨_, _, rfl, .inl rfl⟩
end Go.Proofs.Ytkaiiopoilpjeaa
set_option maxRecDepth 10000
set_option maxHeartbeats 16000000
namespace Go.AI
section
variable {cf : Cx} {xf : ExtF} {base : Nat} {T : Tmps} {H : Heap} {QO : Tmps → Heap → Prop} {log : List FP} {g : Option (Nat × Bool)} {un : List Nat} {r : List SOper} {d : Nat}
theorem wD {site s gn j v j2 g2 : Nat} {ro : Bool} {x y : SArg} {es : List AV} {e e' : AV} {cap2 : Option Nat} {H1 : Heap} {K : List Nat} (hx : x.ev T = .slc j gn v s 0 v .none) (hy : y.ev T = .slc j2 g2 1 s 0 1 cap2) (h2 : H j2 = ⟨g2, ro, .row s [e]⟩) (hab : Du H [e] = some ([e'], H1, K)) (hr : H1 j = ⟨gn, false, .row s es⟩) (hv : es.length = v) (hm : v + 1 ≤ 68719476736)
  (hw : Af T g = some true) (hl : un = [])
  (h : ∀ fp, WO (aops cf xf base r (log ++ [fp]) (T.upd d (.slc j gn (v + 1) s 0 (v + 1) .none)) (H1.upd j ⟨gn, false, .row s (es ++ [e'])⟩)) QO) :
  WO (aops cf xf base (⟨some d, .app site s x y, g, un⟩ :: r) log T H) QO := by
 subst hl
 refine Aq (v := .slc j gn (v + 1) s 0 (v + 1) .none) (H' := H1.upd j ⟨gn, false, .row s (es ++ [e'])⟩) (fp := ⟨[j2] ++ K ++ [j], K ++ [j], false⟩) hw ?_ rfl (h _)
 have e1 : Ch H s (.slc j2 g2 1 s 0 1 cap2) = some ([e], [j2]) := by
  simp [Ch, Ek (ver := 1) h2 rfl]
 simp only [aop, hx, hy, Gv, e1, hab, Ac, Aa]
 simp only [Dc, Fz, Ap, Bx, Ip hr hv]
 rw [if_pos ⟨trivial, by omega, by simpa [Gz] using hm⟩]
 rw [if_neg (by simp)]
 simp only [Aa, As, Dl, Da]
 rw [if_pos ⟨trivial, trivial⟩, Gn hr]
 rfl
end
end Go.AI
namespace Go.Proofs.Ytkaiiopoilpjeaa
open Go.AI
theorem Aeg {n : Nat} {H : Heap} {j g ver s off len : Nat} {cap : Option Nat} {es : List AV} (hr : H.row j g ver s = some es) : vis (n + 1) H (.slc j g ver s off len cap) = j :: ((es.drop off).take len).flatMap (vis n H) := by
 simp only [vis, hr]
theorem zH (m : Nat) (H : Heap) (l : List UInt8) : (BL l).flatMap (vis (m + 1) H) = [] := by
 induction l with
 | nil => rfl
 | cons c l ih => rw [dV, Fq, ih]; rfl
theorem fK {H : Heap} {j g v : Nat} {ro : Bool} {l : List UInt8} (hr : H j = ⟨g, ro, .row 1 (BL l)⟩) (hv : l.length = v) :
  Du H [.slc j g v 1 0 v none] = some ([.islc false false 1 (BL l)], H.upd j ⟨g, true, .row 1 (BL l)⟩, [j]) := by
 have hrow : H.row j g v 1 = some (BL l) := Ek hr (by simpa using hv)
 have hz : fz true 6 H (.slc j g v 1 0 v none) = .islc false false 1 (BL l) := uP (n := 4) hr hv
 have hvis : vis 6 H (.slc j g v 1 0 v none) = [j] := by
  rw [Aeg (n := 5) hrow, Cc, show (BL l).take v = BL l from Aj (by simp; omega), zH 4]
 have hf : [AV.slc j g v 1 0 v none].map (fz true deep H) = [.islc false false 1 (BL l)] := by
  show [fz true 6 H _] = _
  rw [hz]
 have hk : [AV.slc j g v 1 0 v none].flatMap (vis deep H) = [j] := by
  show vis 6 H _ ++ [] = _
  rw [hvis]; rfl
 unfold Du
 rw [if_neg (by simp [Bq, AV.norefs]), hf, hk]
 show some (_, H.upd j ⟨(H j).gen, true, (H j).st⟩, _) = _
 rw [hr]
attribute [local irreducible] aops Bb Cj Dm aop W WO
theorem oB {k : Nat} {l : List UInt8} {f t2 f2 : Bool} {m : List Nat} {T : Tmps} {H : Heap} (hk : 1000000 ≤ k) (hd : Dev l) (hm : ∀ a ∈ m, a < nb l) (hml : m.length < 100000)
  (h1 : H 1 = ⟨1, false, .row 1 []⟩)
  (hT : Has T [(0, .islc false f 1 (BL l)), (7, .slc 1 1 0 1 0 0 none), (13, .islc t2 f2 1 (NL m)), (14, .int .i64 m.length), (15, .int .i64 0)]) :
  W (Bb (CF k) noX 0 k (.loop Sj) T H) (fun ex T' H' => ex = .exit 0 ∧ H' 1 = ⟨1, false, .row 1 ((m.map (secB l)).map Jo)⟩ ∧ T' 7 = .slc 1 1 m.length 1 0 m.length none) := by
 refine Fx m.length (fun i T' H' => H' 1 = ⟨1, false, .row 1 (((m.take i).map (secB l)).map Jo)⟩ ∧ Has T' [(0, .islc false f 1 (BL l)), (7, .slc 1 1 i 1 0 i none), (13, .islc t2 f2 1 (NL m)), (14, .int .i64 m.length), (15, .int .i64 (i : Nat))]) ⟨h1, hT⟩ (by omega) ?_
 rintro i T H hi ⟨g1, hT⟩
 rw [hT.eq]
 simp only [over]
 unfold Sj
 by_cases hlt : i < m.length
 ·obtain ⟨a, ha⟩ : ∃ a, a = m[i] := ⟨_, rfl⟩
  have han : a < nb l := by rw [ha]; exact hm _ (Bz hlt)
  have hle := hd.le han
  have he2 : (NL m)[(i : Int).toNat]? = some (.int .i64 (a : Nat)) := by
   rw [Bd]; unfold NL; rw [Cd, Ai hlt, ← ha]; rfl
  have hst : ((m.take (i + 1)).map (secB l)).map Jo = ((m.take i).map (secB l)).map Jo ++ [Jo (secB l a)] := by
   rw [Bh hlt, ← ha]; simp
  have hlen : (((m.take i).map (secB l)).map Jo).length = i := by simp; omega
  have hz0 : List.replicate 64 (AV.int .u8 0) = BL (List.replicate 64 0) := by unfold BL; rw [Hg]; rfl
  rw [hst]
  generalize ((m.take i).map (secB l)).map Jo = es at *
  by_cases h0 : a = 0
  ·have h0' : (a : Int) = 0 := by omega
   have hsb : secB l a = List.replicate 64 0 := by unfold secB; rw [if_pos h0]
   repeat' (first
    | refine qS ?_ | refine Dv rfl rfl (by omega) he2 rfl rfl ?_ | refine Pr 64 rfl rfl rfl (by decide) rfl rfl rfl ?_
    | refine wD rfl rfl rfl (fK (l := List.replicate 64 0) (by exact Ay (fun z => (⟨_, false, .row 1 z⟩ : Blk)) hz0) rfl) (by exact g1) hlen (by omega) rfl rfl (fun _ => ?_)
    | refine qQba ?_ | refine Ab (fun _ => ?_) (fun _ => ?_) | refine Ax fun _ => ?_)
   exact ⟨hlt, by rw [hsb]; rfl, rfl, rfl, rfl, rfl, by show AV.int _ _ = AV.int _ _; congr 1, trivial⟩
  ·have h0' : (a : Int) ≠ 0 := by omega
   have hsb : secB l a = blk l a := by unfold secB; rw [if_neg h0]
   have hbl : (blk l a).length = 64 := Yf hle
   have hof := Qn k (by omega) false f l a hd.1 hle
   have hrl : (List.replicate 64 (AV.int .u8 0)).length = 64 := rfl
   have hml2 : (BL (blk l a)).length = 64 := by simpa using hbl
   have hrow : (List.replicate 64 (AV.int .u8 0)).take 0 ++ BL (blk l a) ++ (List.replicate 64 (AV.int .u8 0)).drop (0 + 64) = BL (blk l a) := by
    rw [Ix, Dk, Bm (by simp), Bt]
   repeat' (first
    | refine qS ?_ | refine Dv rfl rfl (by omega) he2 rfl rfl ?_ | refine Pr 64 rfl rfl rfl (by decide) rfl rfl rfl ?_ | refine Gr (hof _ _) rfl rfl rfl ?_
    | refine Zd (m := BL (blk l a)) (es := List.replicate 64 (AV.int .u8 0)) rfl rfl (.inl rfl) (Js _) rfl hrl (by omega) hml2 rfl rfl ?_
    | refine wD rfl rfl rfl (fK (l := blk l a) (by exact Ay (fun z => (⟨_, false, .row 1 z⟩ : Blk)) hrow) hbl) (by exact g1) hlen (by omega) rfl rfl (fun _ => ?_)
    | refine qQba ?_ | refine Ab (fun _ => ?_) (fun _ => ?_) | refine Ax fun _ => ?_)
   exact ⟨hlt, by rw [hsb]; rfl, rfl, rfl, rfl, rfl, by show AV.int _ _ = AV.int _ _; congr 1, trivial⟩
 ·have hin : i = m.length := by omega
  subst hin
  rw [Bp] at g1
  repeat' (first | refine qQb ?_ | refine Ab (fun _ => ?_) (fun _ => ?_) | refine Ax fun _ => ?_)
  exact ⟨rfl, g1, rfl⟩
theorem Td (k : Nat) (hk : 1000010 ≤ k) (f t2 f2 : Bool) (l : List UInt8) (hd : Dev l) (m : List Nat) (hm : ∀ a ∈ m, a < nb l) (hml : m.length < 100000) (size : Nat) (hs : size ≤ m.length) :
  FnV (CF k) Ue [.islc false f 1 (BL l), .islc t2 f2 1 (NL m), .int .i64 size] (Sy (Ps l m size)) := by
 refine fnk (by omega) eV rfl ?_
 unfold view_sectors
 have hsl : ((NL m).drop 0).take (size - 0) = NL (m.take size) := by rw [Cc, Nat.sub_zero]; unfold NL; rw [bZ]
 have hln : (((NL m).drop 0).take (size - 0)).length = size := by rw [hsl, Be, Cf]; omega
 repeat' (first
  | refine qS ?_ | refine Ff (n := m.length) (a := 0) (b := size) rfl (.inl rfl) (Be m) rfl (Kz rfl) (by omega) hs rfl rfl ?_ | refine Ba (n := size) rfl hln rfl rfl ?_
  | refine qQb ?_ | refine Ab (fun _ => ?_) (fun _ => ?_) | refine Ax fun _ => ?_)
 have hml2 : (m.take size).length = size := by rw [Cf]; omega
 refine W.mono (oB (k := k - 1) (l := l) (f := f) (t2 := t2) (f2 := f2 && decide (size = m.length)) (m := m.take size) (by omega) hd (fun a ha => hm a (Hn ha)) (by omega) rfl ⟨rfl, rfl, ?_, ?_, rfl, trivial⟩) ?_
 ·exact Ay (AV.islc _ _ 1) hsl
 ·rw [hml2]; rfl
 rintro ex T2 H2 ⟨rfl, g1, h7⟩
 rw [Has.eq (T := T2) (ps := [(7, _)]) ⟨h7, trivial⟩]
 simp only [over]
 show W _ _
 repeat' (first | refine qQb ?_ | refine Ab (fun _ => ?_) (fun _ => ?_) | refine Ax fun _ => ?_)
 refine ⟨Or.inr rfl, _, rfl, ?_⟩
 show fz true (5 + 1) H2 (AV.slc _ _ _ _ _ _ _) = _
 rw [Ph (Ek g1 (by simp)) (by omega), Cc, Aj (by simp)]
 unfold Sy Ps
 simp only [Jq]
 congr 1
 rw [Fh]
 exact Bn fun _ _ => rfl
end Go.Proofs.Ytkaiiopoilpjeaa
set_option maxRecDepth 10000
set_option maxHeartbeats 16000000
namespace Go.Proofs.Ytkaiiopoilpjeaa
open Go.AI
def snAv (b n : Nat) : AV := if n = 0 then .islc false true 0 [] else .slc b 1 n 5 0 n none
def SnAt (b : Nat) (H : Heap) (l : List SnapV) : Prop := if l = [] then (H b).gen = 0 else H b = ⟨1, false, .row 5 (l.map SnapV.av)⟩
def Nu (l : List UInt8) (ps : List (Rec × WS)) : List SnapV := (ps.filter fun p => !Qo p).map (Sl l)
def Ny (l : List UInt8) (ps : List (Rec × WS)) : List SnapV := (ps.filter Qo).map (Sl l)
attribute [local irreducible] aops Bb Cj Dm aop W WO
theorem Afg {k : Nat} {l : List UInt8} {f f' : Bool} {s' : Nat} {recs : List Rec} {ws : List WS} {w0 : WS} {c0 c1 c2 c3 c4 c5 bv hd : AV} {T : Tmps} {H : Heap} (hk : 1000020 ≤ k) (hdv : Dev l) (hs : s' = 8 ∨ recs = []) (hrl : recs.length < 1000) (hwl : ws.length = recs.length)
  (hfit : ∀ w ∈ ws, w.m.length = 512 ∧ ∀ a ∈ w.m, a < nb l) (hsz : ∀ r ∈ recs, r.size ≤ 512)
  (h1 : H 1 = ⟨1, false, .row 3 [.agg [hd, .islc false true 0 [], .islc false true 0 []]]⟩) (h7 : (H 7).gen = 0) (h5 : (H 5).gen = 0)
  (hT : Has T [(0, .islc false f 1 (BL l)), (2, .ptr 0 1 1 3 0 0), (4, .iptr false [c0, c1, c2, c3, c4, c5, .islc false f' s' (recs.map Rec.av), bv, .islc false false 1 ((w0 :: ws).map (WS.iv f l))]), (7, .ptr 1 1 1 3 0 0), (43, .islc false f' s' (recs.map Rec.av)), (44, .int .i64 recs.length), (45, .int .i64 0)]) :
  W (Bb (CF k) noX 0 k (.loop gD) T H) (fun ex T' H' => ex = .exit 0 ∧ H' 0 = H 0 ∧ H' 1 = ⟨1, false, .row 3 [.agg [hd, snAv 7 (Nu l (recs.zip ws)).length, snAv 5 (Ny l (recs.zip ws)).length]]⟩ ∧ SnAt 7 H' (Nu l (recs.zip ws)) ∧ SnAt 5 H' (Ny l (recs.zip ws)) ∧ T' 2 = .ptr 0 1 1 3 0 0 ∧ T' 7 = .ptr 1 1 1 3 0 0) := by
 refine Fx recs.length (fun i T' H' => H' 0 = H 0 ∧ H' 1 = ⟨1, false, .row 3 [.agg [hd, snAv 7 (Nu l ((recs.zip ws).take i)).length, snAv 5 (Ny l ((recs.zip ws).take i)).length]]⟩ ∧ SnAt 7 H' (Nu l ((recs.zip ws).take i)) ∧ SnAt 5 H' (Ny l ((recs.zip ws).take i)) ∧
   Has T' [(0, .islc false f 1 (BL l)), (2, .ptr 0 1 1 3 0 0), (4, .iptr false [c0, c1, c2, c3, c4, c5, .islc false f' s' (recs.map Rec.av), bv, .islc false false 1 ((w0 :: ws).map (WS.iv f l))]), (7, .ptr 1 1 1 3 0 0), (43, .islc false f' s' (recs.map Rec.av)), (44, .int .i64 recs.length), (45, .int .i64 (i : Nat))])
  ⟨rfl, h1, by unfold SnAt; exact h7, by unfold SnAt; exact h5, hT⟩ (by omega) ?_
 rintro i T H hi ⟨g0, g1, g7, g5, hT⟩
 rw [hT.eq]
 simp only [over]
 unfold gD
 by_cases hlt : i < recs.length
 ·obtain rfl : s' = 8 := hs.resolve_right (fun h => by rw [h] at hlt; simp at hlt)
  have hzl : i < (recs.zip ws).length := by rw [Ut]; omega
  have hwi : i < ws.length := by omega
  obtain ⟨w, hw⟩ : ∃ w, w = ws[i] := ⟨_, rfl⟩
  obtain ⟨⟨b1, b2, b3, b4, b5, b6, b7, b8⟩, hr⟩ : ∃ r, r = recs[i] := ⟨_, rfl⟩
  have hzi : (recs.zip ws)[i] = (⟨b1, b2, b3, b4, b5, b6, b7, b8⟩, w) := by rw [List.getElem_zip, ← hr, ← hw]
  have he2 : (recs.map Rec.av)[(i : Int).toNat]? = some (.agg [.int .i64 b1, .int .i64 b2, .int .i64 b3, .int .i64 b4, .int .i64 b5, .int .i64 b6, .int .i64 b7, .int .i64 b8]) := by
   rw [Bd, Cd, Ai hlt, ← hr]; rfl
  have he3 : ((w0 :: ws).map (WS.iv f l))[((i : Int) + 1).toNat]? = some (.iptr false [.islc false f 1 (BL l), .int .i64 (nb l : Nat), .islc false false 1 (NL w.m), Hi false w.nodes, .bool w.bad]) := by
   rw [show ((i : Int) + 1).toNat = i + 1 by omega, Bc, List.getElem?_cons_succ, Cd, Ai hwi, ← hw]; rfl
  have hwf := hfit w (by rw [hw]; exact Bz hwi)
  have hb5 : b5 ≤ 512 := by have := hsz _ (Bz hlt); rw [← hr] at this; exact this
  have hse := Td k (by omega) f false false l hdv w.m hwf.2 (by rw [hwf.1]; omega) b5 (by rw [hwf.1]; exact hb5)
  have hsv : Sl l (⟨b1, b2, b3, b4, b5, b6, b7, b8⟩, w) = ⟨b2, b3, Ps l w.m b5, b7, b8⟩ := rfl
  have hea : (⟨b2, b3, Ps l w.m b5, b7, b8⟩ : SnapV).av = .agg [.int .i64 b2, .int .i64 b3, .islc false false 1 ((Ps l w.m b5).map Jo), .int .i64 b7, .int .i64 b8] := rfl
  unfold Sy at hse
  have htk : (recs.zip ws).take (i + 1) = (recs.zip ws).take i ++ [(⟨b1, b2, b3, b4, b5, b6, b7, b8⟩, w)] := by rw [Bh hzl, hzi]
  have hS : Nu l ((recs.zip ws).take (i + 1)) = Nu l ((recs.zip ws).take i) ++ (if b6 = 1 then [] else [⟨b2, b3, Ps l w.m b5, b7, b8⟩]) := by
   unfold Nu
   rw [htk, Gd, Br]
   congr 1
   by_cases h : b6 = 1
   ·rw [if_pos h, Gg, if_neg (by show ¬ (!decide (b6 = 1)) = true; rw [Az h]; decide)]; rfl
   ·rw [if_neg h, Gg, if_pos (by show (!decide (b6 = 1)) = true; rw [Bo h]; rfl)]; rfl
  have hO : Ny l ((recs.zip ws).take (i + 1)) = Ny l ((recs.zip ws).take i) ++ (if b6 = 1 then [⟨b2, b3, Ps l w.m b5, b7, b8⟩] else []) := by
   unfold Ny
   rw [htk, Gd, Br]
   congr 1
   by_cases h : b6 = 1
   ·rw [if_pos h, Gg, if_pos (show Qo (⟨b1, b2, b3, b4, b5, b6, b7, b8⟩, w) = true from Az h)]; rfl
   ·rw [if_neg h, Gg, if_neg (show ¬ Qo (⟨b1, b2, b3, b4, b5, b6, b7, b8⟩, w) = true from fun hh => h (Jj hh))]; rfl
  have hSl : (Nu l ((recs.zip ws).take i)).length ≤ i := by
   unfold Nu
   rw [Ak]
   exact Ga (Hb _ _) (by rw [Cf]; omega)
  have hOl : (Ny l ((recs.zip ws).take i)).length ≤ i := by
   unfold Ny
   rw [Ak]
   exact Ga (Hb _ _) (by rw [Cf]; omega)
  rw [hS, hO]
  generalize Nu l ((recs.zip ws).take i) = S at *
  generalize Ny l ((recs.zip ws).take i) = O at *
  generalize Ps l w.m b5 = R at *
  obtain ⟨sn, hsn⟩ : ∃ n, n = S.length := ⟨_, rfl⟩
  obtain ⟨on, hon⟩ : ∃ n, n = O.length := ⟨_, rfl⟩
  rw [← hsn, ← hon] at g1
  unfold SnAt at g7 g5
  have hsm : (S.map SnapV.av).length = sn := by rw [Ak, hsn]
  have hom : (O.map SnapV.av).length = on := by rw [Ak, hon]
  by_cases hk1 : b6 = 1
  ·have hk1' : (b6 : Int) = 1 := by omega
   rw [if_pos hk1, if_pos hk1, Bt]
   by_cases ho0 : O = []
   ·subst ho0
    obtain rfl : on = 0 := hon
    rw [if_pos rfl] at g5
    have g1' : H 1 = ⟨1, false, .row 3 [.agg [hd, snAv 7 sn, .islc false true 0 []]]⟩ := g1
    repeat' (first
     | refine qS ?_ | refine Dv rfl rfl (by omega) he2 rfl rfl ?_ | refine Dv rfl rfl (by omega) he3 rfl rfl ?_ | refine Dh ?_ | refine Ad hse ?_
     | refine Iz ?_ (hl := by kernel_rfl) | refine Ic (cs := [.int .i64 b2, .int .i64 b3, .islc false false 1 (R.map Jo), .int .i64 b7, .int .i64 b8]) ?_ (hc := by kernel_rfl)
     | refine Bj ?_ (hr := by exact g1')
     | refine Pa (e := .agg [.int .i64 b2, .int .i64 b3, .islc false false 1 (R.map Jo), .int .i64 b7, .int .i64 b8]) rfl rfl rfl rfl rfl rfl (fun _ => ?_)
     | refine Cr ?_ (hr := by exact g1') | refine qQba ?_ | refine Ab (fun _ => ?_) (fun _ => ?_) | refine Ax fun _ => ?_)
    refine ⟨hlt, g0, ?_, ?_, ?_, rfl, rfl, rfl, rfl, rfl, rfl, by show AV.int _ _ = AV.int _ _; congr 1, trivial⟩
    ·show (⟨1, false, .row 3 [.agg [hd, snAv 7 sn, .slc 5 ((H 5).gen + 1) 1 5 0 1 none]]⟩ : Blk) = _
     rw [g5, hsn]; rfl
    ·unfold SnAt; exact g7
    ·unfold SnAt
     rw [if_neg (by simp)]
     show (⟨(H 5).gen + 1, false, _⟩ : Blk) = _
     rw [g5]; rfl
   ·rw [if_neg ho0] at g5
    have hon0 : on ≠ 0 := fun h => ho0 (Eb.1 (by omega))
    have hsa : snAv 5 on = .slc 5 1 on 5 0 on none := by unfold snAv; rw [if_neg hon0]
    rw [hsa] at g1
    repeat' (first
     | refine qS ?_ | refine Dv rfl rfl (by omega) he2 rfl rfl ?_ | refine Dv rfl rfl (by omega) he3 rfl rfl ?_ | refine Dh ?_ | refine Ad hse ?_
     | refine Iz ?_ (hl := by kernel_rfl) | refine Ic (cs := [.int .i64 b2, .int .i64 b3, .islc false false 1 (R.map Jo), .int .i64 b7, .int .i64 b8]) ?_ (hc := by kernel_rfl)
     | refine Bj ?_ (hr := by exact g1)
     | refine It (e := .agg [.int .i64 b2, .int .i64 b3, .islc false false 1 (R.map Jo), .int .i64 b7, .int .i64 b8]) rfl rfl rfl (by exact g5) hom rfl (by omega) rfl rfl (fun _ => ?_)
     | refine Cr ?_ (hr := by exact g1) | refine qQba ?_ | refine Ab (fun _ => ?_) (fun _ => ?_) | refine Ax fun _ => ?_)
    refine ⟨hlt, g0, ?_, ?_, ?_, rfl, rfl, rfl, rfl, rfl, rfl, by show AV.int _ _ = AV.int _ _; congr 1, trivial⟩
    ·have e : (O ++ [(⟨b2, b3, R, b7, b8⟩ : SnapV)]).length = on + 1 := by simp [hon]
     rw [e, ← hsn]; rfl
    ·unfold SnAt; exact g7
    ·unfold SnAt
     rw [if_neg (by simp), Br]; rfl
  ·have hk1' : (b6 : Int) ≠ 1 := by omega
   rw [if_neg hk1, if_neg hk1, Bt]
   by_cases ho0 : S = []
   ·subst ho0
    obtain rfl : sn = 0 := hsn
    rw [if_pos rfl] at g7
    have g1' : H 1 = ⟨1, false, .row 3 [.agg [hd, .islc false true 0 [], snAv 5 on]]⟩ := g1
    repeat' (first
     | refine qS ?_ | refine Dv rfl rfl (by omega) he2 rfl rfl ?_ | refine Dv rfl rfl (by omega) he3 rfl rfl ?_ | refine Dh ?_ | refine Ad hse ?_
     | refine Iz ?_ (hl := by kernel_rfl) | refine Ic (cs := [.int .i64 b2, .int .i64 b3, .islc false false 1 (R.map Jo), .int .i64 b7, .int .i64 b8]) ?_ (hc := by kernel_rfl)
     | refine Bj ?_ (hr := by exact g1')
     | refine Pa (e := .agg [.int .i64 b2, .int .i64 b3, .islc false false 1 (R.map Jo), .int .i64 b7, .int .i64 b8]) rfl rfl rfl rfl rfl rfl (fun _ => ?_)
     | refine Cr ?_ (hr := by exact g1') | refine qQba ?_ | refine Ab (fun _ => ?_) (fun _ => ?_) | refine Ax fun _ => ?_)
    refine ⟨hlt, g0, ?_, ?_, ?_, rfl, rfl, rfl, rfl, rfl, rfl, by show AV.int _ _ = AV.int _ _; congr 1, trivial⟩
    ·show (⟨1, false, .row 3 [.agg [hd, .slc 7 ((H 7).gen + 1) 1 5 0 1 none, snAv 5 on]]⟩ : Blk) = _
     rw [g7, hon]; rfl
    ·unfold SnAt
     rw [if_neg (by simp)]
     show (⟨(H 7).gen + 1, false, _⟩ : Blk) = _
     rw [g7]; rfl
    ·unfold SnAt; exact g5
   ·rw [if_neg ho0] at g7
    have hsn0 : sn ≠ 0 := fun h => ho0 (Eb.1 (by omega))
    have hsa : snAv 7 sn = .slc 7 1 sn 5 0 sn none := by unfold snAv; rw [if_neg hsn0]
    rw [hsa] at g1
    repeat' (first
     | refine qS ?_ | refine Dv rfl rfl (by omega) he2 rfl rfl ?_ | refine Dv rfl rfl (by omega) he3 rfl rfl ?_ | refine Dh ?_ | refine Ad hse ?_
     | refine Iz ?_ (hl := by kernel_rfl) | refine Ic (cs := [.int .i64 b2, .int .i64 b3, .islc false false 1 (R.map Jo), .int .i64 b7, .int .i64 b8]) ?_ (hc := by kernel_rfl)
     | refine Bj ?_ (hr := by exact g1)
     | refine It (e := .agg [.int .i64 b2, .int .i64 b3, .islc false false 1 (R.map Jo), .int .i64 b7, .int .i64 b8]) rfl rfl rfl (by exact g7) hsm rfl (by omega) rfl rfl (fun _ => ?_)
     | refine Cr ?_ (hr := by exact g1) | refine qQba ?_ | refine Ab (fun _ => ?_) (fun _ => ?_) | refine Ax fun _ => ?_)
    refine ⟨hlt, g0, ?_, ?_, ?_, rfl, rfl, rfl, rfl, rfl, rfl, by show AV.int _ _ = AV.int _ _; congr 1, trivial⟩
    ·have e : (S ++ [(⟨b2, b3, R, b7, b8⟩ : SnapV)]).length = sn + 1 := by simp [hsn]
     rw [e, ← hon]; rfl
    ·unfold SnAt
     rw [if_neg (by simp), Br]; rfl
    ·unfold SnAt; exact g5
 ·have hin : i = recs.length := by omega
  have htk : (recs.zip ws).take i = recs.zip ws := Aj (by rw [Ut]; omega)
  rw [htk] at g1 g7 g5
  repeat' (first | refine qQb ?_ | refine Ab (fun _ => ?_) (fun _ => ?_) | refine Ax fun _ => ?_)
  exact ⟨rfl, g0, g1, g7, g5, rfl, rfl⟩
end Go.Proofs.Ytkaiiopoilpjeaa
