import Derived.Test.YtkaiiopoilpjeaaI9
set_option linter.unusedSimpArgs false
set_option linter.unusedVariables false
set_option maxRecDepth 10000
set_option maxHeartbeats 16000000
namespace Go.Proofs.Ytkaiiopoilpjeaa
open Go.AI
attribute [local irreducible] aops Bb Cj Dm aop W WO
structure CS where
 l : List Rec
 blocks : List Nat
 whole : Nat
 bad : Nat
def cs0 : CS := ⟨[], [], 0, 0⟩
def mayP (c : CS) (r : Rec) : Bool := if r.kind = 1 then decide (c.l = []) else !(c.l.any fun x => decide (x.id = r.id)) && decide (c.whole < 60)
def CS.put (c : CS) (a : Nat) (r : Rec) : CS := ⟨c.l ++ [r], c.blocks ++ [a], if r.kind = 0 then c.whole + 1 else c.whole, 0⟩
def Db (l : List UInt8) : Nat → Nat → CS → CS
 | 0, _, c => c
 | k + 1, a, c => if a = 0 then c else
  if a < 2 ∨ nb l ≤ a ∨ c.blocks.any (a == ·) = true then { c with bad := a }
  else if (Dt (blk l a)).2 ≠ 0 ∨ mayP c (Dt (blk l a)).1 = false then { c with bad := a }
  else Db l k (Dt (blk l a)).1.next (c.put a (Dt (blk l a)).1)
def rIv (t : Bool) (l : List Rec) : AV := if l = [] then .islc false true 0 [] else .islc t false 8 (l.map Rec.av)
def chCs (t : Bool) (c : CS) : List AV := [rIv t c.l, Hi t c.blocks, .int .i64 c.whole, .int .i64 c.bad]
theorem Aef (k : Nat) (hk : 1 ≤ k) (x r : Rec) : FnV (CF k) Hh [x.av, .iptr true r.av.cells] (.bool (decide (x.id = r.id))) := by
 obtain ⟨a1, a2, a3, a4, a5, a6, a7, a8⟩ := x
 obtain ⟨b1, b2, b3, b4, b5, b6, b7, b8⟩ := r
 refine fnk (by omega) So rfl ?_
 unfold Kd Rec.av AV.cells
 simp only
 repeat' (first | refine qQb ?_ | refine Ab (fun _ => ?_) (fun _ => ?_))
 all_goals
  refine ⟨Or.inr rfl, _, rfl, ?_⟩
  rename_i h
  simp only [cmpP] at h
  show AV.bool _ = AV.bool _
  congr 1
  first
   | exact (Az (by omega)).symm
   | exact (Bo (by omega)).symm
theorem Wd (k : Nat) (hk : 10 ≤ k) (t f : Bool) (s : Nat) (v : AV) : FnV (CF k) Cy [.islc t f s [], v] (.int .i64 (-1)) := by
 refine fnk (by omega) Fi rfl ?_
 unfold Df
 repeat' (first | refine qQb ?_ | refine Ab (fun _ => ?_) (fun _ => ?_))
 refine Ib (w_it (by omega) ?_)
 repeat' (first | refine qQb ?_ | refine Ab (fun _ => ?_) (fun _ => ?_))
 exact ⟨Or.inr rfl, _, rfl, rfl⟩
theorem My (k : Nat) (hk : 11 ≤ k) (t f : Bool) (s : Nat) (fn : Nat) (caps : List AV) (hz : ∀ H, caps.map (fz false 5 H) = caps) : FnV (CF k) Bs [.islc t f s [], .fn fn caps] (.bool false) := by
 have hi := Wd (k - 1) (by omega) t f s (.fn fn caps)
 refine fnk (by omega) Fc rfl ?_
 unfold Cu
 repeat' (first | refine qS ?_ | refine Ad hi ?_ rfl (by show [_, AV.fn fn (caps.map (fz false 5 _))] = _; rw [hz]; rfl) | refine qQb ?_ | refine Ab (fun _ => ?_) (fun _ => ?_))
 exact ⟨Or.inr rfl, _, rfl, rfl⟩
theorem Aia (k : Nat) (hk : 1000020 ≤ k) (c : CS) (r : Rec) (hl : c.l.length < 1000000) : FnV (CF k) Ka [.iptr true (chCs true c), r.av] (.bool (mayP c r)) := by
 have hcf : FnV (CF (k - 1)) Bs [rIv true c.l, .fn Hh [.iptr true r.av.cells]] (.bool (c.l.any fun x => decide (x.id = r.id))) := by
  unfold rIv
  by_cases hn : c.l = []
  ·rw [if_pos hn, hn]
   exact My (k - 1) (by omega) false true 0 _ _ (fun _ => rfl)
  ·rw [if_neg hn]
   exact Nv (k - 1) (by omega) true false c.l Hh [.iptr true r.av.cells] (fun x => decide (x.id = r.id)) hl (fun _ => rfl) (fun _ _ => rfl) (fun i hi => Aef (k - 3) (by omega) _ r)
 have hlen : (match rIv true c.l with | .islc _ _ _ es => es.length | _ => 0) = c.l.length := by
  unfold rIv
  by_cases hn : c.l = []
  ·rw [if_pos hn, hn]; rfl
  ·rw [if_neg hn]; simp
 obtain ⟨t', f', s', es, hr⟩ : ∃ t' f' s' es, rIv true c.l = .islc t' f' s' es := by
  unfold rIv
  by_cases hn : c.l = []
  ·rw [if_pos hn]; exact ⟨_, _, _, _, rfl⟩
  ·rw [if_neg hn]; exact ⟨_, _, _, _, rfl⟩
 have hst : fz false 6 Heap.none (rIv true c.l) = rIv true c.l := by rw [hr]; rfl
 rw [hr] at hcf hlen
 simp only at hlen
 unfold mayP chCs
 rw [hr]
 obtain ⟨b1, b2, b3, b4, b5, b6, b7, b8⟩ := r
 refine fnk (by omega) Vm rfl ?_
 unfold Lw Rec.av
 unfold Rec.av AV.cells at hcf
 simp only at hcf ⊢
 have hle : (es.length = 0) ↔ c.l = [] := by rw [hlen]; exact Eb
 cases hb : c.l.any fun x => decide (x.id = b2) with
 | true =>
  rw [hb] at hcf
  by_cases hk1 : b6 = 1
  ·rw [if_pos hk1]
   repeat' (first | refine qS ?_ | refine qN ?_ | refine Ad hcf ?_ | refine Ba (n := es.length) rfl rfl rfl rfl ?_ | refine qQb ?_ | refine Ab (fun _ => ?_) (fun _ => ?_))
   all_goals
    refine ⟨Or.inr rfl, _, rfl, ?_⟩
    rename_i h
    simp only [cmpP] at h
    show AV.bool _ = AV.bool _
    congr 1
    first
     | exact (Az (hle.1 (by omega))).symm
     | exact (Bo (fun hh => h (by have := hle.2 hh; omega))).symm
  ·rw [if_neg hk1]
   repeat' (first | refine qS ?_ | refine qN ?_ | refine Ad hcf ?_ | refine qQb ?_ | refine Ab (fun _ => ?_) (fun _ => ?_))
   exact ⟨Or.inr rfl, _, rfl, rfl⟩
 | false =>
  rw [hb] at hcf
  by_cases hk1 : b6 = 1
  ·rw [if_pos hk1]
   repeat' (first | refine qS ?_ | refine qN ?_ | refine Ad hcf ?_ | refine Ba (n := es.length) rfl rfl rfl rfl ?_ | refine qQb ?_ | refine Ab (fun _ => ?_) (fun _ => ?_))
   all_goals
    refine ⟨Or.inr rfl, _, rfl, ?_⟩
    rename_i h
    simp only [cmpP] at h
    show AV.bool _ = AV.bool _
    congr 1
    first
     | exact (Az (hle.1 (by omega))).symm
     | exact (Bo (fun hh => h (by have := hle.2 hh; omega))).symm
  ·rw [if_neg hk1]
   repeat' (first | refine qS ?_ | refine qN ?_ | refine Ad hcf ?_ | refine qQb ?_ | refine Ab (fun _ => ?_) (fun _ => ?_))
   all_goals
    refine ⟨Or.inr rfl, _, rfl, ?_⟩
    rename_i h
    simp only [cmpP] at h
    show AV.bool _ = AV.bool _
    congr 1
    first
     | (rw [Az (show c.whole < 60 by omega)]; rfl)
     | (rw [Bo (show ¬ c.whole < 60 by omega)]; rfl)
def ChAt (H : Heap) (c : CS) : Prop :=
 (c.l = [] ∧ c.blocks = [] ∧ H 0 = ⟨1, false, .row 4 [.agg [.islc false true 0 [], .islc false true 0 [], .int .i64 c.whole, .int .i64 c.bad]]⟩ ∧ (H 3).gen = 0 ∧ (H 5).gen = 0) ∨
 (c.l ≠ [] ∧ c.blocks.length = c.l.length ∧ H 0 = ⟨1, false, .row 4 [.agg [.slc 3 1 c.l.length 8 0 c.l.length none, .slc 5 1 c.l.length 1 0 c.l.length none, .int .i64 c.whole, .int .i64 c.bad]]⟩ ∧ H 3 = ⟨1, false, .row 8 (c.l.map Rec.av)⟩ ∧ H 5 = ⟨1, false, .row 1 (NL c.blocks)⟩)
theorem Ahw (out : Bool) (n : Nat) (H : Heap) (l : List Rec) : (l.map Rec.av).map (fz out (n + 2) H) = l.map Rec.av := by
 rw [Fh]
 exact Bn fun x _ => by cases out <;> rfl
theorem Aeu {out : Bool} {H : Heap} {j gn v : Nat} {ro : Bool} {cap : Option Nat} {l : List Rec} (hr : H j = ⟨gn, ro, .row 8 (l.map Rec.av)⟩) (hv : l.length = v) (n : Nat) : fz out (n + 3) H (.slc j gn v 8 0 v cap) = .islc (!out) false 8 (l.map Rec.av) := by
 rw [Ph (Ek hr (by rw [Ak]; exact hv)) (by omega), Cc, Aj (by rw [Ak]; omega), Ahw]
theorem Ou {out : Bool} {H : Heap} {c : CS} (h : ChAt H c) (n : Nat) : fz out (n + 4) H (.ptr 0 1 1 4 0 0) = .iptr (!out) (chCs (!out) c) := by
 unfold chCs rIv Hi
 rcases h with ⟨h1, h2, h3, h4, h5⟩ | ⟨h1, h2, h3, h4, h5⟩
 ·have e1 : fz out (n + 3 + 1) H (.ptr 0 1 1 4 0 0) = .iptr (!out) [.islc false true 0 [], .islc false true 0 [], .int .i64 c.whole, .int .i64 c.bad] := by
   show (match H.row 0 1 1 4 with | some es => _ | none => _) = _
   rw [Ek (ver := 1) h3 rfl]
   cases out <;> rfl
  rw [e1, if_pos h1, if_pos h2]
 ·have hb : c.blocks ≠ [] := fun h => h1 (by rw [h] at h2; exact Sr h2.symm)
  have e1 : fz out (n + 3 + 1) H (.ptr 0 1 1 4 0 0) = .iptr (!out) [fz out (n + 3) H (.slc 3 1 c.l.length 8 0 c.l.length none), fz out (n + 3) H (.slc 5 1 c.l.length 1 0 c.l.length none), .int .i64 c.whole, .int .i64 c.bad] := by
   show (match H.row 0 1 1 4 with | some es => _ | none => _) = _
   rw [Ek (ver := 1) h3 rfl]
   cases out <;> rfl
  rw [e1, if_neg h1, if_neg hb, Aeu h4 rfl n, Ge h5 h2 (n + 1)]
end Go.Proofs.Ytkaiiopoilpjeaa

