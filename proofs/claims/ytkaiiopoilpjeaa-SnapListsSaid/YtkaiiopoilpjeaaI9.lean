import Derived.Test.YtkaiiopoilpjeaaI8
set_option linter.unusedSimpArgs false
set_option linter.unusedVariables false
set_option maxRecDepth 10000
set_option maxHeartbeats 16000000
namespace Go.AI
section
variable {cf : Cx} {xf : ExtF} {base : Nat} {T : Tmps} {H : Heap} {QO : Tmps → Heap → Prop} {log : List FP} {g : Option (Nat × Bool)} {un : List Nat} {r : List SOper} {d : Nat} {t f : Bool}
theorem Pr {site s : Nat} {z : AV} {x y : SArg} {k k' : IntKind} {n : Int} (m : Nat) (hx : x.ev T = .int k n) (hy : y.ev T = .int k' n) (hm : n = m) (h1 : n ≤ 68719476736) (hz : z.cells.length = s) (hw : Af T g = some true) (hl : Av log ⟨[], [base + site], false⟩ un = true)
  (h : WO (aops cf xf base r (log ++ [⟨[], [base + site], false⟩]) (T.upd d (.slc (base + site) ((H (base + site)).gen + 1) m s 0 m .none)) (H.newRow (base + site) s (List.replicate m z))) QO) :
  WO (aops cf xf base (⟨some d, .mks site s z x y, g, un⟩ :: r) log T H) QO :=
 Aq (v := .slc (base + site) ((H (base + site)).gen + 1) m s 0 m .none) (H' := H.newRow (base + site) s (List.replicate m z)) hw (by
  subst hm
  simp only [aop, hx, hy, Fb, if_pos (Xs m), Bd, Ac, Aa]
  rw [if_pos ⟨Ao _, by simp [Gz]; omega, hz⟩]) hl h
end
end Go.AI
namespace Go.Proofs.Ytkaiiopoilpjeaa
open Go.AI
attribute [local irreducible] aops Bb Cj Dm aop W WO
def Hi (t : Bool) (l : List Nat) : AV := if l = [] then .islc false true 0 [] else .islc t false 1 (NL l)
def Mt (t f : Bool) (l : List UInt8) (w : WS) : List AV := [.islc false f 1 (BL l), .int .i64 (nb l : Nat), .islc t false 1 (NL w.m), Hi t w.nodes, .bool w.bad]
theorem qO (k : Nat) (hk : 1000012 ≤ k) (f : Bool) (l : List UInt8) (w : WS) (b : Nat) (hn : w.nodes ≠ []) (hw : w.nodes.length < 1000000) : FnV (CF k) Nn [.int .i64 b, .iptr true [.iptr true (Mt true f l w)]] (.bool (w.nodes.any (b == ·))) := by
 have hc := Ri (k - 1) (by omega) true false w.nodes b hw
 refine fnk (by omega) pQ rfl ?_
 unfold bK Mt Hi
 rw [if_neg hn]
 repeat' (first | refine qS ?_ | refine Ad hc ?_ | refine qQb ?_ | fail)
 exact ⟨Or.inr rfl, _, rfl, rfl⟩
def ws0 : WS := ⟨List.replicate 512 0, [], false⟩
def goP (l : List UInt8) (root : Nat) : Option WS :=
 if root = 0 then some ws0 else
 if (Dz l (nb l) 2 root 0 ws0).bad = true ∨ ((Dz l (nb l) 2 root 0 ws0).m.any fun b => (Dz l (nb l) 2 root 0 ws0).nodes.any (b == ·)) = true then none
 else some (Dz l (nb l) 2 root 0 ws0)
def goAv (f : Bool) (l : List UInt8) : Option WS → AV
 | some w => .tup [.iptr false (Mt false f l w), .bool true]
 | none => .tup [.nilp, .bool false]
theorem xF {f : Bool} {l : List UInt8} {H : Heap} {w : WS} (h : WAt false f l (nb l) H w) : fz true 5 H (.ptr 1 1 1 5 0 0) = .iptr false (Mt false f l w) := by
 obtain ⟨g1, g0, gm, gn, g5⟩ := h
 have e1 : fz true (4 + 1) H (.ptr 1 1 1 5 0 0) = .iptr false [.islc false f 1 (BL l), .int .i64 (nb l : Nat), fz true 4 H (.slc 0 1 512 1 0 512 none), fz true 4 H (Ew w.nodes), .bool w.bad] := by
  show (match H.row 1 1 1 5 with | some es => _ | none => _) = _
  rw [Ek (ver := 1) g1 rfl]
  rfl
 rw [e1, Ge g0 gm 2]
 unfold Mt Hi Ew
 by_cases hn : w.nodes = []
 ·rw [if_pos hn, if_pos hn]; rfl
 ·rw [if_neg hn] at g5
  rw [if_neg hn, if_neg hn, Ge g5 rfl 2]; rfl
theorem xM (k : Nat) (hk : 1000050 ≤ k) (f : Bool) (l : List UInt8) (hd : Dev l) (root : Nat) : FnV (CF k) aX [.islc false f 1 (BL l), .int .i64 root] (goAv f l (goP l root)) := by
 have hck := Mj (k - 1) (by omega) false f l hd
 have h512 : BL (List.replicate 512 0) = List.replicate 512 (.int .u8 0) := (Oi 512).symm
 refine fnk (by omega) zB rfl ?_
 unfold nY goP
 by_cases h0 : root = 0
 ·rw [if_pos h0]
  repeat' (first
   | refine qS ?_ | refine qN ?_ | refine Pr 512 rfl rfl rfl (by decide) rfl rfl rfl ?_ | refine Ag (hck) (fun _ => ?_) (fun _ => ?_) | refine Ad (hck) ?_ | refine qQb ?_
   | refine Ab (fun _ => ?_) (fun _ => ?_))
  have e : NL (List.replicate 512 0) = List.replicate 512 (.int .i64 (0 : Nat)) := by simp only [NL, Hg]
  exact ⟨Or.inr rfl, .tup [.ptr 1 1 1 5 0 0, .bool true], rfl, Ay (fun z => AV.tup [z, .bool true]) (xF (w := ws0) ⟨by unfold Ew; rw [if_pos (by rfl)]; rfl, by show (⟨1, false, .row 1 (List.replicate 512 (.int .i64 (0 : Nat)))⟩ : Blk) = ⟨1, false, .row 1 (NL (List.replicate 512 0))⟩; rw [e], by simp [ws0], by simp [ws0], by rw [if_pos (by rfl)]; rfl⟩)⟩
 ·rw [if_neg h0]
  have e : NL (List.replicate 512 0) = List.replicate 512 (.int .i64 (0 : Nat)) := by simp only [NL, Hg]
  repeat' (first
   | refine qS ?_ | refine qN ?_ | refine Pr 512 rfl rfl rfl (by decide) rfl rfl rfl ?_
   | refine Og (Aig (k - 1) (by omega) false f l (nb l) hd.1 (by have := hd.le (show nb l - 1 < nb l by have := hd.nb; omega); have := hd.nb; omega) root 0 (by omega) _ ws0 ⟨by unfold Ew; rw [if_pos (by rfl)]; rfl, by show (⟨1, false, .row 1 (List.replicate 512 (.int .i64 (0 : Nat)))⟩ : Blk) = ⟨1, false, .row 1 (NL (List.replicate 512 0))⟩; rw [e], by simp [ws0], by simp [ws0], by rw [if_pos (by rfl)]; rfl⟩ rfl rfl (by simp [ws0])) rfl rfl rfl ?_
   | refine Ag (hck) (fun _ => ?_) (fun _ => ?_) | refine Ad (hck) ?_ | refine qQb ?_ | refine Ab (fun _ => ?_) (fun _ => ?_))
  rintro u H3 ⟨rfl, ⟨g1, g0, gm, gn, g5⟩, hcnt, hnn, hfr⟩
  have g2 := hfr 2 (by omega) (by omega) (by omega) (by omega)
  change H3 2 = ⟨1, false, .row 1 [.ptr 1 1 1 5 0 0]⟩ at g2
  obtain ⟨w, hw⟩ : ∃ w, w = Dz l (nb l) 2 root 0 ws0 := ⟨_, rfl⟩
  rw [← hw] at g1 g0 gm gn g5 hcnt hnn ⊢
  cases hb : w.bad with
  | true =>
   rw [hb] at g1
   rw [if_pos (.inl rfl)]
   repeat' (first | refine qS ?_ | refine qN ?_ | refine Bj ?_ (hr := by exact g2) | refine Bj ?_ (hr := by exact g1) | refine qQb ?_ | refine Ab (fun _ => ?_) (fun _ => ?_))
   exact ⟨Or.inr rfl, _, rfl, rfl⟩
  | false =>
   have gne := hnn hb
   rw [if_neg gne] at g5
   have gav : Ew w.nodes = .slc 5 1 w.nodes.length 1 0 w.nodes.length none := by unfold Ew; rw [if_neg gne]
   rw [gav, hb] at g1
   have hcf := Kl (k - 1) (by omega) true false w.m Nn [.iptr true [.iptr true (Mt true f l w)]] (fun b => w.nodes.any (b == ·)) (by omega) (fun H => by unfold Mt Hi; rw [if_neg gne]; rfl) (fun a H => by unfold Mt Hi; rw [if_neg gne]; rfl)
    (fun i hi => qO (k - 3) (by omega) f l w _ gne (by omega))
   have hcaps : ∀ H : Heap, H 2 = ⟨1, false, .row 1 [.ptr 1 1 1 5 0 0]⟩ → WAt false f l (nb l) H w → fz false 5 H (.ptr 2 1 1 1 0 0) = .iptr true [.iptr true (Mt true f l w)] := by
    intro H q2 ⟨q1, q0, qm, qn, q5⟩
    rw [if_neg gne] at q5
    have e1 : fz false (4 + 1) H (.ptr 2 1 1 1 0 0) = .iptr true [fz false 4 H (.ptr 1 1 1 5 0 0)] := by
     show (match H.row 2 1 1 1 with | some es => _ | none => _) = _
     rw [Ek (ver := 1) q2 rfl]
     rfl
    have e2 : fz false (3 + 1) H (.ptr 1 1 1 5 0 0) = .iptr true [.islc false f 1 (BL l), .int .i64 (nb l : Nat), fz false 3 H (.slc 0 1 512 1 0 512 none), fz false 3 H (Ew w.nodes), .bool w.bad] := by
     show (match H.row 1 1 1 5 with | some es => _ | none => _) = _
     rw [Ek (ver := 1) q1 rfl]
     rfl
    rw [e1, e2, Ge q0 qm 1, gav, Ge q5 rfl 1]
    unfold Mt Hi
    rw [if_neg gne]; rfl
   have hargs : [fz false (4 + 2) H3 (.slc 0 1 512 1 0 512 none), AV.fn Nn [fz false 5 H3 (.ptr 2 1 1 1 0 0)]] = [.islc true false 1 (w.m.map nav), .fn Nn [.iptr true [.iptr true (Mt true f l w)]]] := by
    rw [Ge g0 gm 4, hcaps H3 g2 ⟨by rw [gav, hb]; exact g1, g0, gm, gn, by rw [if_neg gne]; exact g5⟩]
    rfl
   cases ha : w.m.any fun b => w.nodes.any (b == ·) with
   | true =>
    rw [ha] at hcf
    rw [if_pos (.inr rfl)]
    repeat' (first | refine qS ?_ | refine qN ?_ | refine Bj ?_ (hr := by exact g2) | refine Bj ?_ (hr := by exact g1) | refine Ad hcf ?_ rfl (by exact hargs) | refine qQb ?_ | refine Ab (fun _ => ?_) (fun _ => ?_))
    exact ⟨Or.inr rfl, _, rfl, rfl⟩
   | false =>
    rw [ha] at hcf
    rw [if_neg (by simp)]
    repeat' (first | refine qS ?_ | refine qN ?_ | refine Bj ?_ (hr := by exact g2) | refine Bj ?_ (hr := by exact g1) | refine Ad hcf ?_ rfl (by exact hargs) | refine qQb ?_ | refine Ab (fun _ => ?_) (fun _ => ?_))
    refine ⟨Or.inr rfl, _, rfl, ?_⟩
    exact Ay (fun z => AV.tup [z, .bool true]) (xF (w := w) ⟨by rw [gav, hb]; exact g1, g0, gm, gn, by rw [if_neg gne]; exact g5⟩)
end Go.Proofs.Ytkaiiopoilpjeaa

