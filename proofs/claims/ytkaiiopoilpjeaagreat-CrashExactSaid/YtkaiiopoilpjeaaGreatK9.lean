import Derived.Test.YtkaiiopoilpjeaaGreatMK1b
set_option linter.unusedSimpArgs false
set_option linter.unusedVariables false
set_option maxRecDepth 10000
set_option maxHeartbeats 16000000
namespace Go.Proofs.YtkaiiopoilpjeaaGreat
open Go.AI
def kV (l : List Nat) : AV := if l = [] then .islc false true 0 [] else .slc 6 1 l.length 1 0 l.length none
def PW (f : Bool) (l : List UInt8) (H : Heap) (w : WS) (seen data : List Bool) : Prop :=
 H 3 = ⟨1, false, .row 7 [.agg [.islc false f 1 (BL l), .int .i64 (nb l : Nat), kV w.nodes, .slc 0 1 (nb l) 1 0 (nb l) none, .slc 1 1 (nb l) 1 0 (nb l) none, .slc 2 1 512 1 0 512 none, .bool (!w.bad)]]⟩ ∧
 H 0 = ⟨1, false, .row 1 (seen.map AV.bool)⟩ ∧ H 1 = ⟨1, false, .row 1 (data.map AV.bool)⟩ ∧ H 2 = ⟨1, false, .row 1 (NL w.m)⟩ ∧ w.m.length = 512 ∧ seen.length = nb l ∧ data.length = nb l ∧ w.nodes.length < 1000 ∧
 (if w.nodes = [] then (H 6).gen = 0 else H 6 = ⟨1, false, .row 1 (NL w.nodes)⟩)
def Baa (n : Nat) (w : WS) (seen data : List Bool) : Prop := ∀ a, a < n → (seen.getD a default = true ↔ a ∈ w.nodes) ∧ (data.getD a default = true ↔ a ∈ w.m ∧ a ≠ 0)
def Aza (m : List Nat) (a b : Nat) : Prop := ∀ j, a ≤ j → j < b → m.getD j default = 0
theorem Bbk {m : List Nat} {j p a : Nat} (hj : j < m.length) (h0 : m.getD j default = 0) (ha : a ≠ 0) : a ∈ m.set j p ↔ a ∈ m ∨ a = p := by
 constructor
 ·intro h; exact En h
 ·rintro (h | rfl)
  ·obtain ⟨i, hi, he⟩ := List.getElem_of_mem h
   by_cases hij : i = j
   ·subst hij
    simp only [Af, Aa hi, Ns] at h0
    omega
   ·exact List.mem_iff_getElem.2 ⟨i, by simpa using hi, by rw [List.getElem_set_ne (by omega)]; exact he⟩
  ·exact List.mem_iff_getElem.2 ⟨j, by simpa using hj, by simp⟩
theorem Bgp {n level frm : Nat} {rec : Nat → Nat → WS → WS} (hr : ∀ p f w j, (j < f ∨ f + 8 ^ level ≤ j) → (rec p f w).m.getD j default = w.m.getD j default) : ∀ (ps : List Nat) (i : Nat) (w : WS) (j : Nat), (j < frm + i * 8 ^ level ∨ frm + (i + ps.length) * 8 ^ level ≤ j) → (Iq n level frm rec ps i w).m.getD j default = w.m.getD j default
 | [], _, _, _, _ => rfl
 | p :: r, i, w, j, hj => by
  have e1 : (i + 1) * 8 ^ level = i * 8 ^ level + 8 ^ level := Mo i _
  have e2 : (i + (p :: r).length) * 8 ^ level = (i + 1 + r.length) * 8 ^ level := by congr 1; simp; omega
  have e3 : (i + 1 + r.length) * 8 ^ level = (i + 1) * 8 ^ level + r.length * 8 ^ level := Dj _ _ _
  have e4 : 0 < 8 ^ level := Nat.pow_pos (by decide)
  rw [e2] at hj
  simp only [Iq]
  rw [Bgp hr r (i + 1) _ j (by omega)]
  unfold Kb
  split
  ·rfl
  split
  ·rfl
  split
  ·rfl
  split
  ·rename_i hl
   subst hl
   simp only
   rw [Jj, if_neg]
   rintro ⟨h, _⟩
   simp only [Nat.pow_zero] at hj e1 e3 h
   omega
  ·exact hr _ _ _ j (by omega)
theorem Bgn {l : List UInt8} {n level at0 frm : Nat} {rec : Nat → Nat → WS → WS} (hr : ∀ p f w j, (j < f ∨ f + 8 ^ level ≤ j) → (rec p f w).m.getD j default = w.m.getD j default) (w : WS) (j : Nat) (hj : j < frm ∨ frm + 8 ^ (level + 1) ≤ j) : (Ku l n level at0 frm rec w).m.getD j default = w.m.getD j default := by
 unfold Ku
 split
 ·rfl
 ·rw [Bgp hr _ _ _ j]
  rw [oF]
  have e : (0 + 8) * 8 ^ level = 8 ^ (level + 1) := by rw [Fx]; omega
  rw [e]; omega
theorem Bea (l : List UInt8) (n : Nat) : ∀ (v at0 frm : Nat) (w : WS) (j : Nat), (j < frm ∨ frm + 8 ^ (v + 1) ≤ j) → (Fk l n v at0 frm w).m.getD j default = w.m.getD j default
 | 0, _, _, w, j, hj => Bgn (fun _ _ _ _ _ => rfl) w j hj
 | v + 1, _, _, w, j, hj => Bgn (fun p f w j => Bea l n v p f w j) w j hj
attribute [local irreducible] aops Br Cp Dp aop W WO
theorem Bgl (k : Nat) (hk : 10 ≤ k) {f : Bool} {l : List UInt8} (base at0 v frm : Nat) (hbase : 4 ≤ base) (H : Heap) (w : WS) (seen data : List Bool) (hw : PW f l H w seen data) (hb : w.bad = true) :
  ∃ u H', CF k pZ base [.ptr 3 1 1 7 0 0, .int .i64 at0, .int .i64 (v : Nat), .int .i64 frm] H = some (u, H') ∧ (u = .tup [] ∧ PW f l H' w seen data ∧ ∀ j, j ≠ 3 → H' j = H j) := by
 obtain ⟨g3, g0, g1, g2, gm, gs, gd, gn, g6⟩ := hw
 rw [hb] at g3
 refine fni (by omega) Aya rfl ?_
 unfold pW
 repeat' (first | refine qS ?_ | refine qN ?_ | refine Fw ?_ | refine Be ?_ (hr := by exact g3) | refine Co ?_ (hr := by exact g3) | refine qQb ?_ | refine Ac (fun _ => ?_) (fun _ => ?_) | refine Bl fun _ => ?_)
 refine ⟨Or.inr rfl, _, rfl, rfl, ⟨by rw [hb]; rfl, g0, g1, g2, gm, gs, gd, gn, g6⟩, fun j h3 => ?_⟩
 rw [Df _ _ h3]
def Blr (f : Bool) (l : List UInt8) (H H' : Heap) (w t : WS) : Prop :=
 ∃ w' seen' data', PW f l H' w' seen' data' ∧ w'.bad = t.bad ∧ (w'.bad = false → w' = t ∧ Baa (nb l) w' seen' data') ∧ w'.nodes.length ≤ w.nodes.length + 1 ∧ w'.nodes ≠ [] ∧ ∀ j, j < 10 → j ≠ 0 → j ≠ 1 → j ≠ 2 → j ≠ 3 → j ≠ 6 → H' j = H j
theorem Blz (k : Nat) (hk : 1000070 + 0 ≤ k) (f : Bool) (l : List UInt8) (hd : Dev l) (at0 frm : Nat) (hf : frm + 8 ^ (0 + 1) ≤ 512) (H : Heap) (w : WS) (seen data : List Bool) (hw : PW f l H w seen data) (hb : w.bad = false) (hg : Baa (nb l) w seen data) (hz : Aza w.m frm (frm + 8 ^ (0 + 1))) (he : w.nodes ≠ []) (hcount : w.nodes.length + 1 < 1000) :
  ∃ u H', CF k pZ 10 [.ptr 3 1 1 7 0 0, .int .i64 at0, .int .i64 (0 : Nat), .int .i64 frm] H = some (u, H') ∧ (u = .tup [] ∧ Blr f l H H' w (Fk l (nb l) 0 at0 frm w)) := by
 obtain ⟨g3, g0, g1, g2, gm, gs, gd, gn, g6⟩ := hw
 have hn := hd.nb
 have hin := r_in (k - 1) (by omega) (at0 : Int) 2 ((nb l : Int) - 1)
 have hgo : Fk l (nb l) 0 at0 frm w = Ku l (nb l) 0 at0 frm (fun _ _ w => w) w := rfl
 obtain ⟨tg, htg⟩ : ∃ tg, tg = Fk l (nb l) 0 at0 frm w := ⟨_, rfl⟩
 rw [← htg]
 rw [← htg] at hgo
 clear htg
 unfold Ku at hgo
 have hav : kV w.nodes = .slc 6 1 w.nodes.length 1 0 w.nodes.length none := by unfold kV; rw [if_neg he]
 rw [hav, hb] at g3
 rw [if_neg he] at g6
 refine fni (by omega) Aya rfl ?_
 unfold pW
 by_cases h2 : at0 < 2 ∨ nb l ≤ at0
 ·have hat : (atP l (nb l) at0 0).2 = false := by unfold atP; rw [if_pos h2]
  rw [if_pos (.inl hat)] at hgo
  rw [inR_f.2 (by omega)] at hin
  repeat' (first
   | refine qS ?_ | refine qN ?_ | refine Fw ?_ | refine Be ?_ (hr := by exact g3) | refine Ae hin ?_ | refine Co ?_ (hr := by exact g3) | refine qQb ?_
   | refine Ac (fun _ => ?_) (fun _ => ?_) | refine Bl fun _ => ?_)
  refine ⟨Or.inr rfl, _, rfl, rfl, { w with bad := true }, seen, data, ⟨by rw [hav]; rfl, g0, g1, g2, gm, gs, gd, gn, by rw [if_neg he]; exact g6⟩, by rw [hgo], (fun h => by cases h), by simp, he, (fun j hj j0 j1 j2 j3 j6 => ?_)⟩
  rw [Df _ _ j3]
 rw [inR_iff.2 (by omega)] at hin
 have hix : 0 + (at0 : Int).toNat = at0 := by omega
 have hsn := (hg at0 (by omega)).1
 have hany : w.nodes.any (at0 == ·) = seen.getD at0 default := by
  rw [Aye, Fm, hsn]
  constructor
  ·rintro ⟨y, hy, h⟩; have : at0 = y := by simpa using h
   exact this ▸ hy
  ·exact fun h => ⟨at0, h, by simp⟩
 rw [hany] at hgo
 cases hs : seen.getD at0 default with
 | true =>
  have hs' : seen.getD (0 + (at0 : Int).toNat) default = true := by rw [hix]; exact hs
  rw [hs] at hgo
  rw [if_pos (.inr rfl)] at hgo
  repeat' (first
   | refine qS ?_ | refine qN ?_ | refine Fw ?_ | refine Be ?_ (hr := by exact g3) | refine Ae hin ?_
   | refine Ds rfl rfl (by exact g0) (by rw [Ah]; exact gs) (by omega) (by omega) (by omega) rfl rfl ?_
   | refine Lt (enc := AV.bool) (l := seen) ?_ (hr := by exact g0) (hv0 := by exact gs) (hv := by exact Bo AV.bool hs') | refine Co ?_ (hr := by exact g3) | refine qQb ?_
   | refine Ac (fun _ => ?_) (fun _ => ?_) | refine Bl fun _ => ?_)
  refine ⟨Or.inr rfl, _, rfl, rfl, { w with bad := true }, seen, data, ⟨by rw [hav]; rfl, g0, g1, g2, gm, gs, gd, gn, by rw [if_neg he]; exact g6⟩, by rw [hgo], (fun h => by cases h), by simp, he, (fun j hj j0 j1 j2 j3 j6 => ?_)⟩
  rw [Df _ _ j3]
 | false =>
  have hs' : seen.getD (0 + (at0 : Int).toNat) default = false := by rw [hix]; exact hs
  have hof := Ban (k - 1) (by omega) false f l at0 hd.1 (hd.le (by omega))
  have hp := Baw (k - 1) (by omega) false (f && decide (64 * (at0 + 1) = l.length)) (blk l at0) (by rw [bV (hd.le (by omega))]; omega)
  have hpl := Im (blk l at0)
  have hat : atP l (nb l) at0 0 = ((Cx (blk l at0)).1, decide ((Cx (blk l at0)).2 = 0 ∧ (Cx (blk l at0)).1.level = 0)) := by unfold atP; rw [if_neg h2]
  rw [hat] at hgo
  obtain ⟨x, hx⟩ : ∃ x, x = Cx (blk l at0) := ⟨_, rfl⟩
  rw [← hx] at hp hpl hgo
  obtain ⟨⟨lv, ps⟩, e⟩ := x
  clear hx hat
  simp only at hpl hgo hp
  have hav9 : Nod.av ⟨lv, ps⟩ = .agg (.int .i64 lv :: ps.map fun n : Nat => AV.int .i64 n) := rfl
  have hcl9 : ((AV.int .i64 lv :: ps.map fun n : Nat => AV.int .i64 n) : List AV).length = 9 := by simp [hpl]
  rw [hav9] at hp
  have hst9 : (AV.agg (.int .i64 lv :: ps.map fun n : Nat => AV.int .i64 n)).cells = (.int .i64 lv :: ps.map fun n : Nat => AV.int .i64 n) := rfl
  obtain ⟨gB, hgB⟩ : ∃ g, g = (H (10 + 0)).gen + 1 := ⟨_, rfl⟩
  have hnsto : Et (.agg (.int .i64 lv :: ps.map fun n : Nat => AV.int .i64 n)) = true := by
   match ps, hpl with
   | [a1, a2, a3, a4, a5, a6, a7, a8], _ => rfl
  by_cases hok : e = 0 ∧ lv = 0
  rotate_left 1
  ·rw [Bb hok, if_pos (.inl rfl)] at hgo
   have hok' : ¬ (e = 0 ∧ (lv : Int) = 0) := fun h => hok ⟨h.1, by omega⟩
   repeat' (first
    | refine qS ?_ | refine qN ?_ | refine Fw ?_ | refine Be ?_ (hr := by exact g3) | refine Ae hin ?_
    | refine Ds rfl rfl (by exact g0) (by rw [Ah]; exact gs) (by omega) (by omega) (by omega) rfl rfl ?_
    | refine Lt (enc := AV.bool) (l := seen) ?_ (hr := by exact g0) (hv0 := by exact gs) (hv := by exact Bo AV.bool hs') | refine Ih (hof _ _) rfl rfl rfl ?_
    | refine Iw (hl := by kernel_rfl) ?_ | refine lA (by rfl) (by rfl) (by rfl) (by rfl) (by rfl) hnsto hst9 hcl9 (by exact Ax rfl) rfl (by kernel_rfl) ?_
    | refine Co ?_ (hr := by exact g3) | refine Ek (enc := AV.bool) (l := seen) (a := true) ?_ (hr := by exact g0) (hv0 := by exact gs)
    | refine Al (hp) (fun _ => ?_) (fun _ => ?_) | refine Ae (hp) ?_ | refine qQb ?_ | refine Ac (fun _ => ?_) (fun _ => ?_) | refine Bl fun _ => ?_)
   all_goals
    refine ⟨Or.inr rfl, _, rfl, rfl, { w with bad := true }, seen, data, ⟨by rw [hav]; rfl, g0, g1, g2, gm, gs, gd, gn, by rw [if_neg he]; exact g6⟩, by rw [hgo], (fun h => by cases h), by simp, he, (fun j hj j0 j1 j2 j3 j6 => ?_)⟩
    have e1 : ∀ (H : Heap) b, H.upd 3 b j = H j := fun H b => Df H b j3
    have e2 : ∀ (H : Heap) b, H.upd (10 + 0) b j = H j := fun H b => Df H b (by omega)
    have e3 : ∀ (H : Heap) b, H.upd 10 b j = H j := fun H b => Df H b (by omega)
    simp only [Heap.newRow, Heap.setRow, e1, e2, e3]
  obtain ⟨he0, rfl⟩ := hok
  subst he0
  rw [As ⟨rfl, rfl⟩, hs, if_neg (by simp)] at hgo
  repeat' (first
   | refine qS ?_ | refine qN ?_ | refine Fw ?_ | refine Be ?_ (hr := by exact g3) | refine Ae hin ?_
   | refine Ds rfl rfl (by exact g0) (by rw [Ah]; exact gs) (by omega) (by omega) (by omega) rfl rfl ?_
   | refine Lt (enc := AV.bool) (l := seen) ?_ (hr := by exact g0) (hv0 := by exact gs) (hv := by exact Bo AV.bool hs') | refine Ih (hof _ _) rfl rfl rfl ?_
   | refine Iw (hl := by kernel_rfl) ?_ | refine lA (by rfl) (by rfl) (by rfl) (by rfl) (by rfl) hnsto hst9 hcl9 (by exact Ax rfl) rfl (by kernel_rfl) ?_
   | refine Co ?_ (hr := by exact g3) | refine Ek (enc := AV.bool) (l := seen) (a := true) ?_ (hr := by exact g0) (hv0 := by exact gs)
   | refine Ro rfl rfl rfl (by exact g6) (by rw [Bm]) rfl (by omega) rfl rfl ?_ | refine Al (hp) (fun _ => ?_) (fun _ => ?_) | refine Ae (hp) ?_ | refine qQb ?_
   | refine Ac (fun _ => ?_) (fun _ => ?_) | refine Bl fun _ => ?_)
  refine Km (w_it (by omega) ?_)
  repeat' (first | refine qS ?_ | refine qN ?_ | refine qQb ?_ | refine Ac (fun _ => ?_) (fun _ => ?_) | refine Bl fun _ => ?_)
  refine Biw [(0, .ptr 3 1 1 7 0 0), (2, .int .i64 (0 : Nat)), (3, .int .i64 (frm : Nat)), (8, .ptr 10 ((H 10).gen + 1) 1 9 0 0), (10, .int .i64 1), (12, .int .i64 0)] ⟨by kernel_rfl, by kernel_rfl, by kernel_rfl, by kernel_rfl, by kernel_rfl, by kernel_rfl, trivial⟩ (fun T hT => ?_)
  simp only [over]
  clear hT
  refine W.mono (Q := fun ex T' H' => (ex = .ret ∨ ex = .exit 2) ∧ Blr f l H H' w tg) ?_ ?_
  rotate_left 1
  ·rintro ex T2 H2 ⟨rfl | rfl, hres⟩
   ·exact ⟨Or.inr rfl, _, rfl, rfl, hres⟩
   ·exact ⟨Or.inl rfl, _, rfl, rfl, hres⟩
  have e5 : NL (w.nodes ++ [at0]) = NL w.nodes ++ [.int .i64 at0] := by simp [NL]
  have hav1 : kV (w.nodes ++ [at0]) = .slc 6 1 (w.nodes.length + 1) 1 0 (w.nodes.length + 1) none := by unfold kV; rw [if_neg (by simp)]; simp
  have hg1 : Baa (nb l) ⟨w.m, w.nodes ++ [at0], w.bad⟩ (seen.set at0 true) data := by
   intro a ha
   refine ⟨?_, (hg a ha).2⟩
   rw [Jj]
   by_cases h : at0 = a ∧ at0 < seen.length
   ·rw [if_pos h]; simp [h.1]
   ·rw [if_neg h, (hg a ha).1]
    simp only [Bi, Bg]
    exact ⟨.inl, fun h3 => h3.resolve_right (fun h4 => h ⟨h4.symm, by omega⟩)⟩
  refine Fj 8 (fun i T' H' => ∃ w' seen' data', PW f l H' w' seen' data' ∧ w'.nodes ≠ [] ∧ w'.nodes.length ≤ w.nodes.length + 1 + i * 0 ∧ (∀ j, j < 10 → j ≠ 0 → j ≠ 1 → j ≠ 2 → j ≠ 3 → j ≠ 6 → H' j = H j) ∧ H' 10 = ⟨(H 10).gen + 1, false, .row 9 [.agg (.int .i64 (0 : Nat) :: ps.map fun n : Nat => AV.int .i64 n)]⟩ ∧
    ((w'.bad = false ∧ tg = Iq (nb l) 0 frm (fun _ _ w => w) (ps.drop i) i w' ∧ Baa (nb l) w' seen' data' ∧ Aza w'.m (frm + i * 8 ^ 0) (frm + 8 ^ (0 + 1)))) ∧
    Has T' [(0, .ptr 3 1 1 7 0 0), (2, .int .i64 (0 : Nat)), (3, .int .i64 (frm : Nat)), (8, .ptr 10 ((H 10).gen + 1) 1 9 0 0), (10, .int .i64 1), (12, .int .i64 (i : Nat))])
   ⟨⟨w.m, w.nodes ++ [at0], w.bad⟩, seen.set at0 true, data, ⟨?_, ?_, g1, g2, gm, by simp [gs], gd, by simp; omega, ?_⟩, by simp, by simp, ?_, ?_, ⟨hb, hgo, hg1, by simpa [Aza] using hz⟩, rfl, rfl, rfl, rfl, rfl, rfl, trivial⟩ (by omega) ?_
  ·rw [hav1, hb]; rfl
  ·show (⟨1, false, .row 1 ((seen.set (0 + (at0 : Int).toNat) true).map AV.bool)⟩ : Blk) = _
   rw [hix]
  ·rw [if_neg (by simp), e5]; rfl
  ·intro j hj j0 j1 j2 j3 j6
   have e1 : ∀ (H : Heap) b, H.upd 3 b j = H j := fun H b => Df H b j3
   have e2 : ∀ (H : Heap) b, H.upd (10 + 0) b j = H j := fun H b => Df H b (by omega)
   have e3 : ∀ (H : Heap) b, H.upd 10 b j = H j := fun H b => Df H b (by omega)
   have e4 : ∀ (H : Heap) b, H.upd (10 + 1) b j = H j := fun H b => Df H b (by omega)
   have e7 : ∀ (H : Heap) b, H.upd (10 + 2) b j = H j := fun H b => Df H b (by omega)
   have e8 : ∀ (H : Heap) b, H.upd 6 b j = H j := fun H b => Df H b j6
   have e9 : ∀ (H : Heap) b, H.upd 0 b j = H j := fun H b => Df H b j0
   simp only [Heap.newRow, Heap.setRow, e1, e2, e3, e4, e7, e8, e9]
  ·show (⟨(H 10).gen + 1, false, .row 9 [.agg (([] ++ (.int .i64 (0 : Nat) :: ps.map fun n : Nat => AV.int .i64 n)) ++ [])]⟩ : Blk) = _
   rw [Dd, Bv]
  clear g3 g0 g1 g2 g6 hgo hg1 hof hp hin hs hs' hany hsn hz hg T
  rintro i T H2 hi ⟨w', seen', data', ⟨g3, g0, g1, g2, qm, qs, qd, qn, g6⟩, gne, gcnt, gfr, gB9, hcase, hT⟩
  rw [if_neg gne] at g6
  have gav : kV w'.nodes = .slc 6 1 w'.nodes.length 1 0 w'.nodes.length none := by unfold kV; rw [if_neg gne]
  rw [gav] at g3
  rw [hT.eq]
  simp only [over]
  by_cases hil : i < 8
  ·obtain ⟨p, hpp⟩ : ∃ p, ps.getD i default = p := ⟨_, rfl⟩
   have hdr : ps.drop i = p :: ps.drop (i + 1) := by rw [Qo (show i < ps.length by omega), hpp]
   obtain ⟨hbd, hgo, hg, hz⟩ := hcase
   rw [hbd] at g3
   have hgo' : tg = Iq (nb l) 0 frm (fun _ _ w => w) (ps.drop (i + 1)) (i + 1) (Kb (nb l) 0 frm (fun _ _ w => w) w' i p) := by rw [hgo, hdr]; rfl
   unfold Kb at hgo'
   rw [if_neg (by simp [hbd])] at hgo'
   have hzn : Aza w'.m (frm + (i + 1) * 8 ^ 0) (frm + 8 ^ (0 + 1)) := fun j h1 h2 => hz j (by omega) h2
   by_cases hp0 : p = 0
   ·rw [if_neg (by omega), if_pos hp0] at hgo'
    have hp0' : (p : Int) = 0 := by omega
    repeat' (first
     | refine qS ?_ | refine qN ?_ | refine Es rfl rfl (by omega) (by omega) rfl rfl ?_ | refine hM (ps := ps) (i := i) rfl (by omega) (by omega) (by exact gB9) rfl rfl ?_
     | (rw [hpp]) | refine Fw ?_ | refine Be ?_ (hr := by exact g3) | refine Co ?_ (hr := by exact g3) | refine qQb ?_ | refine Ac (fun _ => ?_) (fun _ => ?_)
     | refine Bl fun _ => ?_)
    exact ⟨hil, w', seen', data', ⟨by rw [gav, hbd]; exact g3, g0, g1, g2, qm, qs, qd, qn, by rw [if_neg gne]; exact g6⟩, gne, by omega, gfr, gB9, ⟨hbd, hgo', hg, hzn⟩, rfl, rfl, rfl, rfl, rfl, by show AV.int _ _ = AV.int _ _; congr 1, trivial⟩
   have hp0' : (p : Int) ≠ 0 := by omega
   by_cases hpn : nb l ≤ p
   ·rw [if_pos hpn] at hgo'
    have htb : tg.bad = true := by rw [hgo']; exact (Bo WS.bad (Qn (w := { w' with bad := true }) _ _ rfl)).trans rfl
    repeat' (first
     | refine qS ?_ | refine qN ?_ | refine Es rfl rfl (by omega) (by omega) rfl rfl ?_ | refine hM (ps := ps) (i := i) rfl (by omega) (by omega) (by exact gB9) rfl rfl ?_
     | (rw [hpp]) | refine Fw ?_ | refine Be ?_ (hr := by exact g3) | refine Co ?_ (hr := by exact g3) | refine qQb ?_ | refine Ac (fun _ => ?_) (fun _ => ?_)
     | refine Bl fun _ => ?_)
    refine ⟨.inl rfl, { w' with bad := true }, seen', data', ⟨by rw [gav]; rfl, g0, g1, g2, qm, qs, qd, qn, by rw [if_neg gne]; exact g6⟩, by rw [htb], (fun h => by cases h), by show w'.nodes.length ≤ _; omega, gne, (fun j h1 j0 j1 j2 j3 j6 => ?_)⟩
    rw [Df _ _ j3]
    exact gfr j h1 j0 j1 j2 j3 j6
   rw [if_neg hpn, if_neg hp0, if_pos rfl] at hgo'
   have hpos : frm + i * 8 ^ 0 = frm + i := by omega
   rw [hpos] at hgo'
   have hixm : 0 + ((frm : Int) + (i : Int)).toNat = frm + i := by omega
   have hixp : 0 + (p : Int).toNat = p := by omega
   repeat' (first
    | refine qS ?_ | refine qN ?_ | refine Es rfl rfl (by omega) (by omega) rfl rfl ?_ | refine hM (ps := ps) (i := i) rfl (by omega) (by omega) (by exact gB9) rfl rfl ?_
    | (rw [hpp]) | refine Fw ?_ | refine Be ?_ (hr := by exact g3) | refine Co ?_ (hr := by exact g3)
    | refine Ds rfl rfl (by exact g2) (by rw [Bm]; exact qm) (by omega) (by omega) (by omega) rfl rfl ?_
    | refine Ds rfl rfl (by exact g1) (by rw [Ah]; exact qd) (by omega) (by omega) (by omega) rfl rfl ?_
    | refine Ek (enc := nav) (l := w'.m) (a := p) ?_ (hr := by exact g2) (hv0 := by exact qm)
    | refine Ek (enc := AV.bool) (l := data') (a := true) ?_ (hr := by exact g1) (hv0 := by exact qd) | refine qQb ?_ | refine Ac (fun _ => ?_) (fun _ => ?_)
    | refine Bl fun _ => ?_)
   have hz0 : w'.m.getD (frm + i) default = 0 := hz (frm + i) (by omega) (by omega)
   refine ⟨hil, ⟨w'.m.set (frm + i) p, w'.nodes, w'.bad⟩, seen', data'.set p true, ⟨by rw [gav, hbd]; exact g3, g0, ?_, ?_, by simp [qm], qs, by simp [qd], qn, by rw [if_neg gne]; exact g6⟩, gne, by show w'.nodes.length ≤ _; omega, (fun j h1 j0 j1 j2 j3 j6 => ?_), gB9, ⟨hbd, hgo', ?_, ?_⟩, rfl, rfl, rfl, rfl, rfl, by show AV.int _ _ = AV.int _ _; congr 1, trivial⟩
   ·show (⟨1, false, .row 1 ((data'.set (0 + (p : Int).toNat) true).map AV.bool)⟩ : Blk) = _
    rw [hixp]
   ·show (⟨1, false, .row 1 ((w'.m.set (0 + ((frm : Int) + (i : Int)).toNat) p).map nav)⟩ : Blk) = _
    rw [hixm]; rfl
   ·have e1 : ∀ (H : Heap) b, H.upd 1 b j = H j := fun H b => Df H b j1
    have e2 : ∀ (H : Heap) b, H.upd 2 b j = H j := fun H b => Df H b j2
    simp only [e1, e2]
    exact gfr j h1 j0 j1 j2 j3 j6
   ·intro a ha
    refine ⟨(hg a ha).1, ?_⟩
    show (data'.set p true).getD a default = true ↔ a ∈ w'.m.set (frm + i) p ∧ a ≠ 0
    rw [Jj]
    by_cases h : p = a ∧ p < data'.length
    ·rw [if_pos h]
     obtain ⟨rfl, _⟩ := h
     exact ⟨fun _ => ⟨(Bbk (by omega) hz0 hp0).2 (.inr rfl), hp0⟩, fun _ => rfl⟩
    ·rw [if_neg h, (hg a ha).2]
     constructor
     ·rintro ⟨h1, h2⟩; exact ⟨(Bbk (by omega) hz0 h2).2 (.inl h1), h2⟩
     ·rintro ⟨h1, h2⟩
      exact ⟨((Bbk (by omega) hz0 h2).1 h1).resolve_right (fun he => h ⟨he.symm, by omega⟩), h2⟩
   ·intro j h1 h2
    show (w'.m.set (frm + i) p).getD j default = 0
    rw [Jj, if_neg (by omega)]
    exact hz j (by omega) h2
  ·have hi8 : i = 8 := by omega
   repeat' (first | refine qS ?_ | refine qN ?_ | refine qQb ?_ | refine Ac (fun _ => ?_) (fun _ => ?_) | refine Bl fun _ => ?_)
   refine ⟨.inr rfl, w', seen', data', ⟨by rw [gav]; exact g3, g0, g1, g2, qm, qs, qd, qn, by rw [if_neg gne]; exact g6⟩, ?_, ?_, by omega, gne, gfr⟩
   ·rw [hcase.1, hcase.2.1, Ce (by omega)]; exact hcase.1.symm
   ·exact fun _ => ⟨by rw [hcase.2.1, Ce (by omega)]; rfl, hcase.2.2.1⟩
def Bls (f : Bool) (l : List UInt8) (H H' : Heap) (w t : WS) : Prop :=
 ∃ w' seen' data', PW f l H' w' seen' data' ∧ w'.bad = t.bad ∧ (w'.bad = false → w' = t ∧ Baa (nb l) w' seen' data') ∧ w'.nodes.length ≤ w.nodes.length + 9 ∧ w'.nodes ≠ [] ∧ ∀ j, j < 7 → j ≠ 0 → j ≠ 1 → j ≠ 2 → j ≠ 3 → j ≠ 6 → H' j = H j
theorem Bma (k : Nat) (hk : 1000070 + 1 ≤ k) (f : Bool) (l : List UInt8) (hd : Dev l) (at0 frm : Nat) (hf : frm + 8 ^ (1 + 1) ≤ 512) (H : Heap) (w : WS) (seen data : List Bool) (hw : PW f l H w seen data) (hb : w.bad = false) (hg : Baa (nb l) w seen data) (hz : Aza w.m frm (frm + 8 ^ (1 + 1))) (he : w.nodes ≠ []) (hcount : w.nodes.length + 9 < 1000) :
  ∃ u H', CF k pZ 7 [.ptr 3 1 1 7 0 0, .int .i64 at0, .int .i64 (1 : Nat), .int .i64 frm] H = some (u, H') ∧ (u = .tup [] ∧ Bls f l H H' w (Fk l (nb l) 1 at0 frm w)) := by
 obtain ⟨g3, g0, g1, g2, gm, gs, gd, gn, g6⟩ := hw
 have hn := hd.nb
 have hin := r_in (k - 1) (by omega) (at0 : Int) 2 ((nb l : Int) - 1)
 have hgo : Fk l (nb l) 1 at0 frm w = Ku l (nb l) 1 at0 frm (Fk l (nb l) 0) w := rfl
 obtain ⟨tg, htg⟩ : ∃ tg, tg = Fk l (nb l) 1 at0 frm w := ⟨_, rfl⟩
 rw [← htg]
 rw [← htg] at hgo
 clear htg
 unfold Ku at hgo
 have hav : kV w.nodes = .slc 6 1 w.nodes.length 1 0 w.nodes.length none := by unfold kV; rw [if_neg he]
 rw [hav, hb] at g3
 rw [if_neg he] at g6
 refine fni (by omega) Aya rfl ?_
 unfold pW
 by_cases h2 : at0 < 2 ∨ nb l ≤ at0
 ·have hat : (atP l (nb l) at0 1).2 = false := by unfold atP; rw [if_pos h2]
  rw [if_pos (.inl hat)] at hgo
  rw [inR_f.2 (by omega)] at hin
  repeat' (first
   | refine qS ?_ | refine qN ?_ | refine Fw ?_ | refine Be ?_ (hr := by exact g3) | refine Ae hin ?_ | refine Co ?_ (hr := by exact g3) | refine qQb ?_
   | refine Ac (fun _ => ?_) (fun _ => ?_) | refine Bl fun _ => ?_)
  refine ⟨Or.inr rfl, _, rfl, rfl, { w with bad := true }, seen, data, ⟨by rw [hav]; rfl, g0, g1, g2, gm, gs, gd, gn, by rw [if_neg he]; exact g6⟩, by rw [hgo], (fun h => by cases h), by simp, he, (fun j hj j0 j1 j2 j3 j6 => ?_)⟩
  rw [Df _ _ j3]
 rw [inR_iff.2 (by omega)] at hin
 have hix : 0 + (at0 : Int).toNat = at0 := by omega
 have hsn := (hg at0 (by omega)).1
 have hany : w.nodes.any (at0 == ·) = seen.getD at0 default := by
  rw [Aye, Fm, hsn]
  constructor
  ·rintro ⟨y, hy, h⟩; have : at0 = y := by simpa using h
   exact this ▸ hy
  ·exact fun h => ⟨at0, h, by simp⟩
 rw [hany] at hgo
 cases hs : seen.getD at0 default with
 | true =>
  have hs' : seen.getD (0 + (at0 : Int).toNat) default = true := by rw [hix]; exact hs
  rw [hs] at hgo
  rw [if_pos (.inr rfl)] at hgo
  repeat' (first
   | refine qS ?_ | refine qN ?_ | refine Fw ?_ | refine Be ?_ (hr := by exact g3) | refine Ae hin ?_
   | refine Ds rfl rfl (by exact g0) (by rw [Ah]; exact gs) (by omega) (by omega) (by omega) rfl rfl ?_
   | refine Lt (enc := AV.bool) (l := seen) ?_ (hr := by exact g0) (hv0 := by exact gs) (hv := by exact Bo AV.bool hs') | refine Co ?_ (hr := by exact g3) | refine qQb ?_
   | refine Ac (fun _ => ?_) (fun _ => ?_) | refine Bl fun _ => ?_)
  refine ⟨Or.inr rfl, _, rfl, rfl, { w with bad := true }, seen, data, ⟨by rw [hav]; rfl, g0, g1, g2, gm, gs, gd, gn, by rw [if_neg he]; exact g6⟩, by rw [hgo], (fun h => by cases h), by simp, he, (fun j hj j0 j1 j2 j3 j6 => ?_)⟩
  rw [Df _ _ j3]
 | false =>
  have hs' : seen.getD (0 + (at0 : Int).toNat) default = false := by rw [hix]; exact hs
  have hof := Ban (k - 1) (by omega) false f l at0 hd.1 (hd.le (by omega))
  have hp := Baw (k - 1) (by omega) false (f && decide (64 * (at0 + 1) = l.length)) (blk l at0) (by rw [bV (hd.le (by omega))]; omega)
  have hpl := Im (blk l at0)
  have hat : atP l (nb l) at0 1 = ((Cx (blk l at0)).1, decide ((Cx (blk l at0)).2 = 0 ∧ (Cx (blk l at0)).1.level = 1)) := by unfold atP; rw [if_neg h2]
  rw [hat] at hgo
  obtain ⟨x, hx⟩ : ∃ x, x = Cx (blk l at0) := ⟨_, rfl⟩
  rw [← hx] at hp hpl hgo
  obtain ⟨⟨lv, ps⟩, e⟩ := x
  clear hx hat
  simp only at hpl hgo hp
  have hav9 : Nod.av ⟨lv, ps⟩ = .agg (.int .i64 lv :: ps.map fun n : Nat => AV.int .i64 n) := rfl
  have hcl9 : ((AV.int .i64 lv :: ps.map fun n : Nat => AV.int .i64 n) : List AV).length = 9 := by simp [hpl]
  rw [hav9] at hp
  have hst9 : (AV.agg (.int .i64 lv :: ps.map fun n : Nat => AV.int .i64 n)).cells = (.int .i64 lv :: ps.map fun n : Nat => AV.int .i64 n) := rfl
  obtain ⟨gB, hgB⟩ : ∃ g, g = (H (7 + 0)).gen + 1 := ⟨_, rfl⟩
  have hnsto : Et (.agg (.int .i64 lv :: ps.map fun n : Nat => AV.int .i64 n)) = true := by
   match ps, hpl with
   | [a1, a2, a3, a4, a5, a6, a7, a8], _ => rfl
  by_cases hok : e = 0 ∧ lv = 1
  rotate_left 1
  ·rw [Bb hok, if_pos (.inl rfl)] at hgo
   have hok' : ¬ (e = 0 ∧ (lv : Int) = 1) := fun h => hok ⟨h.1, by omega⟩
   repeat' (first
    | refine qS ?_ | refine qN ?_ | refine Fw ?_ | refine Be ?_ (hr := by exact g3) | refine Ae hin ?_
    | refine Ds rfl rfl (by exact g0) (by rw [Ah]; exact gs) (by omega) (by omega) (by omega) rfl rfl ?_
    | refine Lt (enc := AV.bool) (l := seen) ?_ (hr := by exact g0) (hv0 := by exact gs) (hv := by exact Bo AV.bool hs') | refine Ih (hof _ _) rfl rfl rfl ?_
    | refine Iw (hl := by kernel_rfl) ?_ | refine lA (by rfl) (by rfl) (by rfl) (by rfl) (by rfl) hnsto hst9 hcl9 (by exact Ax rfl) rfl (by kernel_rfl) ?_
    | refine Co ?_ (hr := by exact g3) | refine Ek (enc := AV.bool) (l := seen) (a := true) ?_ (hr := by exact g0) (hv0 := by exact gs)
    | refine Al (hp) (fun _ => ?_) (fun _ => ?_) | refine Ae (hp) ?_ | refine qQb ?_ | refine Ac (fun _ => ?_) (fun _ => ?_) | refine Bl fun _ => ?_)
   all_goals
    refine ⟨Or.inr rfl, _, rfl, rfl, { w with bad := true }, seen, data, ⟨by rw [hav]; rfl, g0, g1, g2, gm, gs, gd, gn, by rw [if_neg he]; exact g6⟩, by rw [hgo], (fun h => by cases h), by simp, he, (fun j hj j0 j1 j2 j3 j6 => ?_)⟩
    have e1 : ∀ (H : Heap) b, H.upd 3 b j = H j := fun H b => Df H b j3
    have e2 : ∀ (H : Heap) b, H.upd (7 + 0) b j = H j := fun H b => Df H b (by omega)
    have e3 : ∀ (H : Heap) b, H.upd 7 b j = H j := fun H b => Df H b (by omega)
    simp only [Heap.newRow, Heap.setRow, e1, e2, e3]
  obtain ⟨he0, rfl⟩ := hok
  subst he0
  rw [As ⟨rfl, rfl⟩, hs, if_neg (by simp)] at hgo
  repeat' (first
   | refine qS ?_ | refine qN ?_ | refine Fw ?_ | refine Be ?_ (hr := by exact g3) | refine Ae hin ?_
   | refine Ds rfl rfl (by exact g0) (by rw [Ah]; exact gs) (by omega) (by omega) (by omega) rfl rfl ?_
   | refine Lt (enc := AV.bool) (l := seen) ?_ (hr := by exact g0) (hv0 := by exact gs) (hv := by exact Bo AV.bool hs') | refine Ih (hof _ _) rfl rfl rfl ?_
   | refine Iw (hl := by kernel_rfl) ?_ | refine lA (by rfl) (by rfl) (by rfl) (by rfl) (by rfl) hnsto hst9 hcl9 (by exact Ax rfl) rfl (by kernel_rfl) ?_
   | refine Co ?_ (hr := by exact g3) | refine Ek (enc := AV.bool) (l := seen) (a := true) ?_ (hr := by exact g0) (hv0 := by exact gs)
   | refine Ro rfl rfl rfl (by exact g6) (by rw [Bm]) rfl (by omega) rfl rfl ?_ | refine Al (hp) (fun _ => ?_) (fun _ => ?_) | refine Ae (hp) ?_ | refine qQb ?_
   | refine Ac (fun _ => ?_) (fun _ => ?_) | refine Bl fun _ => ?_)
  refine Km (w_it (by omega) ?_)
  repeat' (first | refine qS ?_ | refine qN ?_ | refine qQb ?_ | refine Ac (fun _ => ?_) (fun _ => ?_) | refine Bl fun _ => ?_)
  refine w_it (by omega) ?_
  repeat' (first | refine qS ?_ | refine qN ?_ | refine qQb ?_ | refine Ac (fun _ => ?_) (fun _ => ?_) | refine Bl fun _ => ?_)
  refine Biw [(0, .ptr 3 1 1 7 0 0), (2, .int .i64 (1 : Nat)), (3, .int .i64 (frm : Nat)), (8, .ptr 7 ((H 7).gen + 1) 1 9 0 0), (10, .int .i64 8), (12, .int .i64 0)] ⟨by kernel_rfl, by kernel_rfl, by kernel_rfl, by kernel_rfl, by kernel_rfl, by kernel_rfl, trivial⟩ (fun T hT => ?_)
  simp only [over]
  clear hT
  refine W.mono (Q := fun ex T' H' => (ex = .ret ∨ ex = .exit 2) ∧ Bls f l H H' w tg) ?_ ?_
  rotate_left 1
  ·rintro ex T2 H2 ⟨rfl | rfl, hres⟩
   ·exact ⟨Or.inr rfl, _, rfl, rfl, hres⟩
   ·exact ⟨Or.inl rfl, _, rfl, rfl, hres⟩
  have e5 : NL (w.nodes ++ [at0]) = NL w.nodes ++ [.int .i64 at0] := by simp [NL]
  have hav1 : kV (w.nodes ++ [at0]) = .slc 6 1 (w.nodes.length + 1) 1 0 (w.nodes.length + 1) none := by unfold kV; rw [if_neg (by simp)]; simp
  have hg1 : Baa (nb l) ⟨w.m, w.nodes ++ [at0], w.bad⟩ (seen.set at0 true) data := by
   intro a ha
   refine ⟨?_, (hg a ha).2⟩
   rw [Jj]
   by_cases h : at0 = a ∧ at0 < seen.length
   ·rw [if_pos h]; simp [h.1]
   ·rw [if_neg h, (hg a ha).1]
    simp only [Bi, Bg]
    exact ⟨.inl, fun h3 => h3.resolve_right (fun h4 => h ⟨h4.symm, by omega⟩)⟩
  refine Fj 8 (fun i T' H' => ∃ w' seen' data', PW f l H' w' seen' data' ∧ w'.nodes ≠ [] ∧ w'.nodes.length ≤ w.nodes.length + 1 + i * 1 ∧ (∀ j, j < 7 → j ≠ 0 → j ≠ 1 → j ≠ 2 → j ≠ 3 → j ≠ 6 → H' j = H j) ∧ H' 7 = ⟨(H 7).gen + 1, false, .row 9 [.agg (.int .i64 (1 : Nat) :: ps.map fun n : Nat => AV.int .i64 n)]⟩ ∧
    ((w'.bad = false ∧ tg = Iq (nb l) 1 frm (Fk l (nb l) 0) (ps.drop i) i w' ∧ Baa (nb l) w' seen' data' ∧ Aza w'.m (frm + i * 8 ^ 1) (frm + 8 ^ (1 + 1))) ∨ (w'.bad = true ∧ tg.bad = true)) ∧
    Has T' [(0, .ptr 3 1 1 7 0 0), (2, .int .i64 (1 : Nat)), (3, .int .i64 (frm : Nat)), (8, .ptr 7 ((H 7).gen + 1) 1 9 0 0), (10, .int .i64 8), (12, .int .i64 (i : Nat))])
   ⟨⟨w.m, w.nodes ++ [at0], w.bad⟩, seen.set at0 true, data, ⟨?_, ?_, g1, g2, gm, by simp [gs], gd, by simp; omega, ?_⟩, by simp, by simp, ?_, ?_, .inl ⟨hb, hgo, hg1, by simpa [Aza] using hz⟩, rfl, rfl, rfl, rfl, rfl, rfl, trivial⟩ (by omega) ?_
  ·rw [hav1, hb]; rfl
  ·show (⟨1, false, .row 1 ((seen.set (0 + (at0 : Int).toNat) true).map AV.bool)⟩ : Blk) = _
   rw [hix]
  ·rw [if_neg (by simp), e5]; rfl
  ·intro j hj j0 j1 j2 j3 j6
   have e1 : ∀ (H : Heap) b, H.upd 3 b j = H j := fun H b => Df H b j3
   have e2 : ∀ (H : Heap) b, H.upd (7 + 0) b j = H j := fun H b => Df H b (by omega)
   have e3 : ∀ (H : Heap) b, H.upd 7 b j = H j := fun H b => Df H b (by omega)
   have e4 : ∀ (H : Heap) b, H.upd (7 + 1) b j = H j := fun H b => Df H b (by omega)
   have e7 : ∀ (H : Heap) b, H.upd (7 + 2) b j = H j := fun H b => Df H b (by omega)
   have e8 : ∀ (H : Heap) b, H.upd 6 b j = H j := fun H b => Df H b j6
   have e9 : ∀ (H : Heap) b, H.upd 0 b j = H j := fun H b => Df H b j0
   simp only [Heap.newRow, Heap.setRow, e1, e2, e3, e4, e7, e8, e9]
  ·show (⟨(H 7).gen + 1, false, .row 9 [.agg (([] ++ (.int .i64 (1 : Nat) :: ps.map fun n : Nat => AV.int .i64 n)) ++ [])]⟩ : Blk) = _
   rw [Dd, Bv]
  clear g3 g0 g1 g2 g6 hgo hg1 hof hp hin hs hs' hany hsn hz hg T
  rintro i T H2 hi ⟨w', seen', data', ⟨g3, g0, g1, g2, qm, qs, qd, qn, g6⟩, gne, gcnt, gfr, gB9, hcase, hT⟩
  rw [if_neg gne] at g6
  have gav : kV w'.nodes = .slc 6 1 w'.nodes.length 1 0 w'.nodes.length none := by unfold kV; rw [if_neg gne]
  rw [gav] at g3
  rw [hT.eq]
  simp only [over]
  by_cases hil : i < 8
  ·obtain ⟨p, hpp⟩ : ∃ p, ps.getD i default = p := ⟨_, rfl⟩
   have hdr : ps.drop i = p :: ps.drop (i + 1) := by rw [Qo (show i < ps.length by omega), hpp]
   rcases hcase with ⟨hbd, hgo, hg, hz⟩ | hcase
   ·rw [hbd] at g3
    have hgo' : tg = Iq (nb l) 1 frm (Fk l (nb l) 0) (ps.drop (i + 1)) (i + 1) (Kb (nb l) 1 frm (Fk l (nb l) 0) w' i p) := by rw [hgo, hdr]; rfl
    unfold Kb at hgo'
    rw [if_neg (by simp [hbd])] at hgo'
    have hzn : Aza w'.m (frm + (i + 1) * 8 ^ 1) (frm + 8 ^ (1 + 1)) := fun j h1 h2 => hz j (by omega) h2
    by_cases hp0 : p = 0
    ·rw [if_neg (by omega), if_pos hp0] at hgo'
     have hp0' : (p : Int) = 0 := by omega
     repeat' (first
      | refine qS ?_ | refine qN ?_ | refine Es rfl rfl (by omega) (by omega) rfl rfl ?_ | refine hM (ps := ps) (i := i) rfl (by omega) (by omega) (by exact gB9) rfl rfl ?_
      | (rw [hpp]) | refine Fw ?_ | refine Be ?_ (hr := by exact g3) | refine Co ?_ (hr := by exact g3) | refine qQb ?_ | refine Ac (fun _ => ?_) (fun _ => ?_)
      | refine Bl fun _ => ?_)
     exact ⟨hil, w', seen', data', ⟨by rw [gav, hbd]; exact g3, g0, g1, g2, qm, qs, qd, qn, by rw [if_neg gne]; exact g6⟩, gne, by omega, gfr, gB9, .inl ⟨hbd, hgo', hg, hzn⟩, rfl, rfl, rfl, rfl, rfl, by show AV.int _ _ = AV.int _ _; congr 1, trivial⟩
    have hp0' : (p : Int) ≠ 0 := by omega
    by_cases hpn : nb l ≤ p
    ·rw [if_pos hpn] at hgo'
     have htb : tg.bad = true := by rw [hgo']; exact (Bo WS.bad (Qn (w := { w' with bad := true }) _ _ rfl)).trans rfl
     repeat' (first
      | refine qS ?_ | refine qN ?_ | refine Es rfl rfl (by omega) (by omega) rfl rfl ?_ | refine hM (ps := ps) (i := i) rfl (by omega) (by omega) (by exact gB9) rfl rfl ?_
      | (rw [hpp]) | refine Fw ?_ | refine Be ?_ (hr := by exact g3) | refine Co ?_ (hr := by exact g3) | refine qQb ?_ | refine Ac (fun _ => ?_) (fun _ => ?_)
      | refine Bl fun _ => ?_)
     refine ⟨.inl rfl, { w' with bad := true }, seen', data', ⟨by rw [gav]; rfl, g0, g1, g2, qm, qs, qd, qn, by rw [if_neg gne]; exact g6⟩, by rw [htb], (fun h => by cases h), by show w'.nodes.length ≤ _; omega, gne, (fun j h1 j0 j1 j2 j3 j6 => ?_)⟩
     rw [Df _ _ j3]
     exact gfr j h1 j0 j1 j2 j3 j6
    rw [if_neg hpn, if_neg hp0, if_neg (by decide)] at hgo'
    have hrec := Blz (k - 1) (by omega) f l hd p (frm + i * 8 ^ 1) (by omega) H2 w' seen' data' ⟨by rw [gav, hbd]; exact g3, g0, g1, g2, qm, qs, qd, qn, by rw [if_neg gne]; exact g6⟩ hbd hg (fun j h1 h2 => hz j h1 (by omega)) gne (by omega)
    repeat' (first
     | refine qS ?_ | refine qN ?_ | refine Es rfl rfl (by omega) (by omega) rfl rfl ?_ | refine hM (ps := ps) (i := i) rfl (by omega) (by omega) (by exact gB9) rfl rfl ?_
     | (rw [hpp]) | refine Fw ?_ | refine Be ?_ (hr := by exact g3) | refine Co ?_ (hr := by exact g3) | refine Er hrec rfl rfl rfl ?_ | refine qQb ?_
     | refine Ac (fun _ => ?_) (fun _ => ?_) | refine Bl fun _ => ?_)
    rintro u H3 ⟨rfl, w3, seen3, data3, hpw3, hbd3, hgd3, hct3, hne3, hfr3⟩
    repeat' (first | refine qS ?_ | refine qN ?_ | refine qQb ?_ | refine Ac (fun _ => ?_) (fun _ => ?_) | refine Bl fun _ => ?_)
    have hB3 : H3 7 = H2 7 := hfr3 7 (by omega) (by omega) (by omega) (by omega) (by omega) (by omega)
    refine ⟨hil, w3, seen3, data3, hpw3, hne3, by omega, (fun j h1 j0 j1 j2 j3 j6 => by rw [hfr3 j (by omega) j0 j1 j2 j3 j6]; exact gfr j h1 j0 j1 j2 j3 j6), by rw [hB3]; exact gB9, ?_, rfl, rfl, rfl, rfl, rfl, by show AV.int _ _ = AV.int _ _; congr 1, trivial⟩
    cases hb3 : w3.bad with
    | true => exact .inr ⟨rfl, by rw [hb3] at hbd3; rw [hgo', Qn _ _ hbd3.symm]; exact hbd3.symm⟩
    | false =>
     obtain ⟨he3, hg3⟩ := hgd3 hb3
     rw [← he3] at hgo'
     refine .inl ⟨rfl, hgo', hg3, fun j h1 h2 => ?_⟩
     rw [he3, Bea l (nb l) 0 p (frm + i * 8 ^ 1) w' j (by omega)]
     exact hz j (by omega) h2
   ·skip
    obtain ⟨hbd, htb⟩ := hcase
    rw [hbd] at g3
    by_cases hp0 : p = 0
    ·have hp0' : (p : Int) = 0 := by omega
     repeat' (first
      | refine qS ?_ | refine qN ?_ | refine Es rfl rfl (by omega) (by omega) rfl rfl ?_ | refine hM (ps := ps) (i := i) rfl (by omega) (by omega) (by exact gB9) rfl rfl ?_
      | (rw [hpp]) | refine Fw ?_ | refine Be ?_ (hr := by exact g3) | refine Co ?_ (hr := by exact g3) | refine qQb ?_ | refine Ac (fun _ => ?_) (fun _ => ?_)
      | refine Bl fun _ => ?_)
     exact ⟨hil, w', seen', data', ⟨by rw [gav, hbd]; exact g3, g0, g1, g2, qm, qs, qd, qn, by rw [if_neg gne]; exact g6⟩, gne, by omega, gfr, gB9, .inr ⟨hbd, htb⟩, rfl, rfl, rfl, rfl, rfl, by show AV.int _ _ = AV.int _ _; congr 1, trivial⟩
    have hp0' : (p : Int) ≠ 0 := by omega
    by_cases hpn : nb l ≤ p
    ·skip
     repeat' (first
      | refine qS ?_ | refine qN ?_ | refine Es rfl rfl (by omega) (by omega) rfl rfl ?_ | refine hM (ps := ps) (i := i) rfl (by omega) (by omega) (by exact gB9) rfl rfl ?_
      | (rw [hpp]) | refine Fw ?_ | refine Be ?_ (hr := by exact g3) | refine Co ?_ (hr := by exact g3) | refine qQb ?_ | refine Ac (fun _ => ?_) (fun _ => ?_)
      | refine Bl fun _ => ?_)
     refine ⟨.inl rfl, w', seen', data', ⟨by rw [gav, hbd]; rfl, g0, g1, g2, qm, qs, qd, qn, by rw [if_neg gne]; exact g6⟩, by rw [hbd, htb], (fun h => by rw [hbd] at h; cases h), by omega, gne, (fun j h1 j0 j1 j2 j3 j6 => ?_)⟩
     rw [Df _ _ j3]
     exact gfr j h1 j0 j1 j2 j3 j6
    have hrec := Bgl (k - 1) (by omega) (f := f) (l := l) 10 p 0 (frm + i * 8 ^ 1) (by omega) H2 w' seen' data' ⟨by rw [gav, hbd]; exact g3, g0, g1, g2, qm, qs, qd, qn, by rw [if_neg gne]; exact g6⟩ hbd
    repeat' (first
     | refine qS ?_ | refine qN ?_ | refine Es rfl rfl (by omega) (by omega) rfl rfl ?_ | refine hM (ps := ps) (i := i) rfl (by omega) (by omega) (by exact gB9) rfl rfl ?_
     | (rw [hpp]) | refine Fw ?_ | refine Be ?_ (hr := by exact g3) | refine Co ?_ (hr := by exact g3) | refine Er hrec rfl rfl rfl ?_ | refine qQb ?_
     | refine Ac (fun _ => ?_) (fun _ => ?_) | refine Bl fun _ => ?_)
    rintro u H3 ⟨rfl, hpw3, hfr3⟩
    repeat' (first | refine qS ?_ | refine qN ?_ | refine qQb ?_ | refine Ac (fun _ => ?_) (fun _ => ?_) | refine Bl fun _ => ?_)
    have hB3 : H3 7 = H2 7 := hfr3 7 (by omega)
    exact ⟨hil, w', seen', data', hpw3, gne, by omega, (fun j h1 j0 j1 j2 j3 j6 => by rw [hfr3 j j3]; exact gfr j h1 j0 j1 j2 j3 j6), by rw [hB3]; exact gB9, .inr ⟨hbd, htb⟩, rfl, rfl, rfl, rfl, rfl, by show AV.int _ _ = AV.int _ _; congr 1, trivial⟩
  ·have hi8 : i = 8 := by omega
   repeat' (first | refine qS ?_ | refine qN ?_ | refine qQb ?_ | refine Ac (fun _ => ?_) (fun _ => ?_) | refine Bl fun _ => ?_)
   refine ⟨.inr rfl, w', seen', data', ⟨by rw [gav]; exact g3, g0, g1, g2, qm, qs, qd, qn, by rw [if_neg gne]; exact g6⟩, ?_, ?_, by omega, gne, gfr⟩
   ·rcases hcase with hcase | hcase
    ·rw [hcase.1, hcase.2.1, Ce (by omega)]; exact hcase.1.symm
    ·rw [hcase.1, hcase.2]
   ·intro hb0
    rcases hcase with hcase | hcase
    ·exact ⟨by rw [hcase.2.1, Ce (by omega)]; rfl, hcase.2.2.1⟩
    ·rw [hcase.1] at hb0; cases hb0
def Blt (f : Bool) (l : List UInt8) (H H' : Heap) (w t : WS) : Prop :=
 ∃ w' seen' data', PW f l H' w' seen' data' ∧ w'.bad = t.bad ∧ (w'.bad = false → w' = t ∧ Baa (nb l) w' seen' data') ∧ w'.nodes.length ≤ w.nodes.length + 73 ∧ (w'.bad = false → w'.nodes ≠ []) ∧ ∀ j, j < 4 → j ≠ 0 → j ≠ 1 → j ≠ 2 → j ≠ 3 → j ≠ 6 → H' j = H j
theorem Blx (k : Nat) (hk : 1000070 + 2 ≤ k) (f : Bool) (l : List UInt8) (hd : Dev l) (at0 frm : Nat) (hf : frm + 8 ^ (2 + 1) ≤ 512) (H : Heap) (w : WS) (seen data : List Bool) (hw : PW f l H w seen data) (hb : w.bad = false) (hg : Baa (nb l) w seen data) (hz : Aza w.m frm (frm + 8 ^ (2 + 1))) (he : w.nodes = []) (hcount : w.nodes.length + 73 < 1000) :
  ∃ u H', CF k pZ 4 [.ptr 3 1 1 7 0 0, .int .i64 at0, .int .i64 (2 : Nat), .int .i64 frm] H = some (u, H') ∧ (u = .tup [] ∧ Blt f l H H' w (Fk l (nb l) 2 at0 frm w)) := by
 obtain ⟨g3, g0, g1, g2, gm, gs, gd, gn, g6⟩ := hw
 have hn := hd.nb
 have hin := r_in (k - 1) (by omega) (at0 : Int) 2 ((nb l : Int) - 1)
 have hgo : Fk l (nb l) 2 at0 frm w = Ku l (nb l) 2 at0 frm (Fk l (nb l) 1) w := rfl
 obtain ⟨tg, htg⟩ : ∃ tg, tg = Fk l (nb l) 2 at0 frm w := ⟨_, rfl⟩
 rw [← htg]
 rw [← htg] at hgo
 clear htg
 unfold Ku at hgo
 have hav : kV w.nodes = .islc false true 0 [] := by unfold kV; rw [if_pos he]
 rw [hav, hb] at g3
 rw [if_pos he] at g6
 refine fni (by omega) Aya rfl ?_
 unfold pW
 by_cases h2 : at0 < 2 ∨ nb l ≤ at0
 ·have hat : (atP l (nb l) at0 2).2 = false := by unfold atP; rw [if_pos h2]
  rw [if_pos (.inl hat)] at hgo
  rw [inR_f.2 (by omega)] at hin
  repeat' (first
   | refine qS ?_ | refine qN ?_ | refine Fw ?_ | refine Be ?_ (hr := by exact g3) | refine Ae hin ?_ | refine Co ?_ (hr := by exact g3) | refine qQb ?_
   | refine Ac (fun _ => ?_) (fun _ => ?_) | refine Bl fun _ => ?_)
  refine ⟨Or.inr rfl, _, rfl, rfl, { w with bad := true }, seen, data, ⟨by rw [hav]; rfl, g0, g1, g2, gm, gs, gd, gn, by rw [if_pos he]; exact g6⟩, by rw [hgo], (fun h => by cases h), by simp, (fun h => by cases h), (fun j hj j0 j1 j2 j3 j6 => ?_)⟩
  rw [Df _ _ j3]
 rw [inR_iff.2 (by omega)] at hin
 have hix : 0 + (at0 : Int).toNat = at0 := by omega
 have hsn := (hg at0 (by omega)).1
 have hany : w.nodes.any (at0 == ·) = seen.getD at0 default := by
  rw [Aye, Fm, hsn]
  constructor
  ·rintro ⟨y, hy, h⟩; have : at0 = y := by simpa using h
   exact this ▸ hy
  ·exact fun h => ⟨at0, h, by simp⟩
 rw [hany] at hgo
 cases hs : seen.getD at0 default with
 | true =>
  have hs' : seen.getD (0 + (at0 : Int).toNat) default = true := by rw [hix]; exact hs
  rw [hs] at hgo
  rw [if_pos (.inr rfl)] at hgo
  repeat' (first
   | refine qS ?_ | refine qN ?_ | refine Fw ?_ | refine Be ?_ (hr := by exact g3) | refine Ae hin ?_
   | refine Ds rfl rfl (by exact g0) (by rw [Ah]; exact gs) (by omega) (by omega) (by omega) rfl rfl ?_
   | refine Lt (enc := AV.bool) (l := seen) ?_ (hr := by exact g0) (hv0 := by exact gs) (hv := by exact Bo AV.bool hs') | refine Co ?_ (hr := by exact g3) | refine qQb ?_
   | refine Ac (fun _ => ?_) (fun _ => ?_) | refine Bl fun _ => ?_)
  refine ⟨Or.inr rfl, _, rfl, rfl, { w with bad := true }, seen, data, ⟨by rw [hav]; rfl, g0, g1, g2, gm, gs, gd, gn, by rw [if_pos he]; exact g6⟩, by rw [hgo], (fun h => by cases h), by simp, (fun h => by cases h), (fun j hj j0 j1 j2 j3 j6 => ?_)⟩
  rw [Df _ _ j3]
 | false =>
  have hs' : seen.getD (0 + (at0 : Int).toNat) default = false := by rw [hix]; exact hs
  have hof := Ban (k - 1) (by omega) false f l at0 hd.1 (hd.le (by omega))
  have hp := Baw (k - 1) (by omega) false (f && decide (64 * (at0 + 1) = l.length)) (blk l at0) (by rw [bV (hd.le (by omega))]; omega)
  have hpl := Im (blk l at0)
  have hat : atP l (nb l) at0 2 = ((Cx (blk l at0)).1, decide ((Cx (blk l at0)).2 = 0 ∧ (Cx (blk l at0)).1.level = 2)) := by unfold atP; rw [if_neg h2]
  rw [hat] at hgo
  obtain ⟨x, hx⟩ : ∃ x, x = Cx (blk l at0) := ⟨_, rfl⟩
  rw [← hx] at hp hpl hgo
  obtain ⟨⟨lv, ps⟩, e⟩ := x
  clear hx hat
  simp only at hpl hgo hp
  have hav9 : Nod.av ⟨lv, ps⟩ = .agg (.int .i64 lv :: ps.map fun n : Nat => AV.int .i64 n) := rfl
  have hcl9 : ((AV.int .i64 lv :: ps.map fun n : Nat => AV.int .i64 n) : List AV).length = 9 := by simp [hpl]
  rw [hav9] at hp
  have hst9 : (AV.agg (.int .i64 lv :: ps.map fun n : Nat => AV.int .i64 n)).cells = (.int .i64 lv :: ps.map fun n : Nat => AV.int .i64 n) := rfl
  obtain ⟨gB, hgB⟩ : ∃ g, g = (H (4 + 0)).gen + 1 := ⟨_, rfl⟩
  have hnsto : Et (.agg (.int .i64 lv :: ps.map fun n : Nat => AV.int .i64 n)) = true := by
   match ps, hpl with
   | [a1, a2, a3, a4, a5, a6, a7, a8], _ => rfl
  by_cases hok : e = 0 ∧ lv = 2
  rotate_left 1
  ·rw [Bb hok, if_pos (.inl rfl)] at hgo
   have hok' : ¬ (e = 0 ∧ (lv : Int) = 2) := fun h => hok ⟨h.1, by omega⟩
   repeat' (first
    | refine qS ?_ | refine qN ?_ | refine Fw ?_ | refine Be ?_ (hr := by exact g3) | refine Ae hin ?_
    | refine Ds rfl rfl (by exact g0) (by rw [Ah]; exact gs) (by omega) (by omega) (by omega) rfl rfl ?_
    | refine Lt (enc := AV.bool) (l := seen) ?_ (hr := by exact g0) (hv0 := by exact gs) (hv := by exact Bo AV.bool hs') | refine Ih (hof _ _) rfl rfl rfl ?_
    | refine Iw (hl := by kernel_rfl) ?_ | refine lA (by rfl) (by rfl) (by rfl) (by rfl) (by rfl) hnsto hst9 hcl9 (by exact Ax rfl) rfl (by kernel_rfl) ?_
    | refine Co ?_ (hr := by exact g3) | refine Ek (enc := AV.bool) (l := seen) (a := true) ?_ (hr := by exact g0) (hv0 := by exact gs)
    | refine Al (hp) (fun _ => ?_) (fun _ => ?_) | refine Ae (hp) ?_ | refine qQb ?_ | refine Ac (fun _ => ?_) (fun _ => ?_) | refine Bl fun _ => ?_)
   all_goals
    refine ⟨Or.inr rfl, _, rfl, rfl, { w with bad := true }, seen, data, ⟨by rw [hav]; rfl, g0, g1, g2, gm, gs, gd, gn, by rw [if_pos he]; exact g6⟩, by rw [hgo], (fun h => by cases h), by simp, (fun h => by cases h), (fun j hj j0 j1 j2 j3 j6 => ?_)⟩
    have e1 : ∀ (H : Heap) b, H.upd 3 b j = H j := fun H b => Df H b j3
    have e2 : ∀ (H : Heap) b, H.upd (4 + 0) b j = H j := fun H b => Df H b (by omega)
    have e3 : ∀ (H : Heap) b, H.upd 4 b j = H j := fun H b => Df H b (by omega)
    simp only [Heap.newRow, Heap.setRow, e1, e2, e3]
  obtain ⟨he0, rfl⟩ := hok
  subst he0
  rw [As ⟨rfl, rfl⟩, hs, if_neg (by simp)] at hgo
  repeat' (first
   | refine qS ?_ | refine qN ?_ | refine Fw ?_ | refine Be ?_ (hr := by exact g3) | refine Ae hin ?_
   | refine Ds rfl rfl (by exact g0) (by rw [Ah]; exact gs) (by omega) (by omega) (by omega) rfl rfl ?_
   | refine Lt (enc := AV.bool) (l := seen) ?_ (hr := by exact g0) (hv0 := by exact gs) (hv := by exact Bo AV.bool hs') | refine Ih (hof _ _) rfl rfl rfl ?_
   | refine Iw (hl := by kernel_rfl) ?_ | refine lA (by rfl) (by rfl) (by rfl) (by rfl) (by rfl) hnsto hst9 hcl9 (by exact Ax rfl) rfl (by kernel_rfl) ?_
   | refine Co ?_ (hr := by exact g3) | refine Ek (enc := AV.bool) (l := seen) (a := true) ?_ (hr := by exact g0) (hv0 := by exact gs)
   | refine bM rfl rfl rfl rfl rfl rfl ?_ | refine Al (hp) (fun _ => ?_) (fun _ => ?_) | refine Ae (hp) ?_ | refine qQb ?_ | refine Ac (fun _ => ?_) (fun _ => ?_)
   | refine Bl fun _ => ?_)
  refine Km (w_it (by omega) ?_)
  repeat' (first | refine qS ?_ | refine qN ?_ | refine qQb ?_ | refine Ac (fun _ => ?_) (fun _ => ?_) | refine Bl fun _ => ?_)
  refine w_it (by omega) ?_
  repeat' (first | refine qS ?_ | refine qN ?_ | refine qQb ?_ | refine Ac (fun _ => ?_) (fun _ => ?_) | refine Bl fun _ => ?_)
  refine w_it (by omega) ?_
  repeat' (first | refine qS ?_ | refine qN ?_ | refine qQb ?_ | refine Ac (fun _ => ?_) (fun _ => ?_) | refine Bl fun _ => ?_)
  refine Biw [(0, .ptr 3 1 1 7 0 0), (2, .int .i64 (2 : Nat)), (3, .int .i64 (frm : Nat)), (8, .ptr 4 ((H 4).gen + 1) 1 9 0 0), (10, .int .i64 64), (12, .int .i64 0)] ⟨by kernel_rfl, by kernel_rfl, by kernel_rfl, by kernel_rfl, by kernel_rfl, by kernel_rfl, trivial⟩ (fun T hT => ?_)
  simp only [over]
  clear hT
  refine W.mono (Q := fun ex T' H' => (ex = .ret ∨ ex = .exit 2) ∧ Blt f l H H' w tg) ?_ ?_
  rotate_left 1
  ·rintro ex T2 H2 ⟨rfl | rfl, hres⟩
   ·exact ⟨Or.inr rfl, _, rfl, rfl, hres⟩
   ·exact ⟨Or.inl rfl, _, rfl, rfl, hres⟩
  have e5 : NL (w.nodes ++ [at0]) = NL w.nodes ++ [.int .i64 at0] := by simp [NL]
  have hav1 : kV (w.nodes ++ [at0]) = .slc 6 1 (w.nodes.length + 1) 1 0 (w.nodes.length + 1) none := by unfold kV; rw [if_neg (by simp)]; simp
  have hg1 : Baa (nb l) ⟨w.m, w.nodes ++ [at0], w.bad⟩ (seen.set at0 true) data := by
   intro a ha
   refine ⟨?_, (hg a ha).2⟩
   rw [Jj]
   by_cases h : at0 = a ∧ at0 < seen.length
   ·rw [if_pos h]; simp [h.1]
   ·rw [if_neg h, (hg a ha).1]
    simp only [Bi, Bg]
    exact ⟨.inl, fun h3 => h3.resolve_right (fun h4 => h ⟨h4.symm, by omega⟩)⟩
  refine Fj 8 (fun i T' H' => ∃ w' seen' data', PW f l H' w' seen' data' ∧ w'.nodes ≠ [] ∧ w'.nodes.length ≤ w.nodes.length + 1 + i * 9 ∧ (∀ j, j < 4 → j ≠ 0 → j ≠ 1 → j ≠ 2 → j ≠ 3 → j ≠ 6 → H' j = H j) ∧ H' 4 = ⟨(H 4).gen + 1, false, .row 9 [.agg (.int .i64 (2 : Nat) :: ps.map fun n : Nat => AV.int .i64 n)]⟩ ∧
    ((w'.bad = false ∧ tg = Iq (nb l) 2 frm (Fk l (nb l) 1) (ps.drop i) i w' ∧ Baa (nb l) w' seen' data' ∧ Aza w'.m (frm + i * 8 ^ 2) (frm + 8 ^ (2 + 1))) ∨ (w'.bad = true ∧ tg.bad = true)) ∧
    Has T' [(0, .ptr 3 1 1 7 0 0), (2, .int .i64 (2 : Nat)), (3, .int .i64 (frm : Nat)), (8, .ptr 4 ((H 4).gen + 1) 1 9 0 0), (10, .int .i64 64), (12, .int .i64 (i : Nat))])
   ⟨⟨w.m, w.nodes ++ [at0], w.bad⟩, seen.set at0 true, data, ⟨?_, ?_, g1, g2, gm, by simp [gs], gd, by simp; omega, ?_⟩, by simp, by simp, ?_, ?_, .inl ⟨hb, hgo, hg1, by simpa [Aza] using hz⟩, rfl, rfl, rfl, rfl, rfl, rfl, trivial⟩ (by omega) ?_
  ·rw [hav1, hb]; show (⟨1, false, .row 7 [.agg [.islc false f 1 (BL l), .int .i64 (nb l : Nat), .slc 6 ((H 6).gen + 1) 1 1 0 1 none, .slc 0 1 (nb l) 1 0 (nb l) none, .slc 1 1 (nb l) 1 0 (nb l) none, .slc 2 1 512 1 0 512 none, .bool (!false)]]⟩ : Blk) = _; rw [g6, he]; rfl
  ·show (⟨1, false, .row 1 ((seen.set (0 + (at0 : Int).toNat) true).map AV.bool)⟩ : Blk) = _
   rw [hix]
  ·rw [if_neg (by simp), e5]; show (⟨(H 6).gen + 1, false, .row 1 [.int .i64 at0]⟩ : Blk) = _; rw [g6, he]; rfl
  ·intro j hj j0 j1 j2 j3 j6
   have e1 : ∀ (H : Heap) b, H.upd 3 b j = H j := fun H b => Df H b j3
   have e2 : ∀ (H : Heap) b, H.upd (4 + 0) b j = H j := fun H b => Df H b (by omega)
   have e3 : ∀ (H : Heap) b, H.upd 4 b j = H j := fun H b => Df H b (by omega)
   have e4 : ∀ (H : Heap) b, H.upd (4 + 1) b j = H j := fun H b => Df H b (by omega)
   have e7 : ∀ (H : Heap) b, H.upd (4 + 2) b j = H j := fun H b => Df H b (by omega)
   have e8 : ∀ (H : Heap) b, H.upd 6 b j = H j := fun H b => Df H b j6
   have e9 : ∀ (H : Heap) b, H.upd 0 b j = H j := fun H b => Df H b j0
   simp only [Heap.newRow, Heap.setRow, e1, e2, e3, e4, e7, e8, e9]
  ·show (⟨(H 4).gen + 1, false, .row 9 [.agg (([] ++ (.int .i64 (2 : Nat) :: ps.map fun n : Nat => AV.int .i64 n)) ++ [])]⟩ : Blk) = _
   rw [Dd, Bv]
  clear g3 g0 g1 g2 g6 hgo hg1 hof hp hin hs hs' hany hsn hz hg T
  rintro i T H2 hi ⟨w', seen', data', ⟨g3, g0, g1, g2, qm, qs, qd, qn, g6⟩, gne, gcnt, gfr, gB9, hcase, hT⟩
  rw [if_neg gne] at g6
  have gav : kV w'.nodes = .slc 6 1 w'.nodes.length 1 0 w'.nodes.length none := by unfold kV; rw [if_neg gne]
  rw [gav] at g3
  rw [hT.eq]
  simp only [over]
  by_cases hil : i < 8
  ·obtain ⟨p, hpp⟩ : ∃ p, ps.getD i default = p := ⟨_, rfl⟩
   have hdr : ps.drop i = p :: ps.drop (i + 1) := by rw [Qo (show i < ps.length by omega), hpp]
   rcases hcase with ⟨hbd, hgo, hg, hz⟩ | hcase
   ·rw [hbd] at g3
    have hgo' : tg = Iq (nb l) 2 frm (Fk l (nb l) 1) (ps.drop (i + 1)) (i + 1) (Kb (nb l) 2 frm (Fk l (nb l) 1) w' i p) := by rw [hgo, hdr]; rfl
    unfold Kb at hgo'
    rw [if_neg (by simp [hbd])] at hgo'
    have hzn : Aza w'.m (frm + (i + 1) * 8 ^ 2) (frm + 8 ^ (2 + 1)) := fun j h1 h2 => hz j (by omega) h2
    by_cases hp0 : p = 0
    ·rw [if_neg (by omega), if_pos hp0] at hgo'
     have hp0' : (p : Int) = 0 := by omega
     repeat' (first
      | refine qS ?_ | refine qN ?_ | refine Es rfl rfl (by omega) (by omega) rfl rfl ?_ | refine hM (ps := ps) (i := i) rfl (by omega) (by omega) (by exact gB9) rfl rfl ?_
      | (rw [hpp]) | refine Fw ?_ | refine Be ?_ (hr := by exact g3) | refine Co ?_ (hr := by exact g3) | refine qQb ?_ | refine Ac (fun _ => ?_) (fun _ => ?_)
      | refine Bl fun _ => ?_)
     exact ⟨hil, w', seen', data', ⟨by rw [gav, hbd]; exact g3, g0, g1, g2, qm, qs, qd, qn, by rw [if_neg gne]; exact g6⟩, gne, by omega, gfr, gB9, .inl ⟨hbd, hgo', hg, hzn⟩, rfl, rfl, rfl, rfl, rfl, by show AV.int _ _ = AV.int _ _; congr 1, trivial⟩
    have hp0' : (p : Int) ≠ 0 := by omega
    by_cases hpn : nb l ≤ p
    ·rw [if_pos hpn] at hgo'
     have htb : tg.bad = true := by rw [hgo']; exact (Bo WS.bad (Qn (w := { w' with bad := true }) _ _ rfl)).trans rfl
     repeat' (first
      | refine qS ?_ | refine qN ?_ | refine Es rfl rfl (by omega) (by omega) rfl rfl ?_ | refine hM (ps := ps) (i := i) rfl (by omega) (by omega) (by exact gB9) rfl rfl ?_
      | (rw [hpp]) | refine Fw ?_ | refine Be ?_ (hr := by exact g3) | refine Co ?_ (hr := by exact g3) | refine qQb ?_ | refine Ac (fun _ => ?_) (fun _ => ?_)
      | refine Bl fun _ => ?_)
     refine ⟨.inl rfl, { w' with bad := true }, seen', data', ⟨by rw [gav]; rfl, g0, g1, g2, qm, qs, qd, qn, by rw [if_neg gne]; exact g6⟩, by rw [htb], (fun h => by cases h), by show w'.nodes.length ≤ _; omega, (fun _ => gne), (fun j h1 j0 j1 j2 j3 j6 => ?_)⟩
     rw [Df _ _ j3]
     exact gfr j h1 j0 j1 j2 j3 j6
    rw [if_neg hpn, if_neg hp0, if_neg (by decide)] at hgo'
    have hrec := Bma (k - 1) (by omega) f l hd p (frm + i * 8 ^ 2) (by omega) H2 w' seen' data' ⟨by rw [gav, hbd]; exact g3, g0, g1, g2, qm, qs, qd, qn, by rw [if_neg gne]; exact g6⟩ hbd hg (fun j h1 h2 => hz j h1 (by omega)) gne (by omega)
    repeat' (first
     | refine qS ?_ | refine qN ?_ | refine Es rfl rfl (by omega) (by omega) rfl rfl ?_ | refine hM (ps := ps) (i := i) rfl (by omega) (by omega) (by exact gB9) rfl rfl ?_
     | (rw [hpp]) | refine Fw ?_ | refine Be ?_ (hr := by exact g3) | refine Co ?_ (hr := by exact g3) | refine Er hrec rfl rfl rfl ?_ | refine qQb ?_
     | refine Ac (fun _ => ?_) (fun _ => ?_) | refine Bl fun _ => ?_)
    rintro u H3 ⟨rfl, w3, seen3, data3, hpw3, hbd3, hgd3, hct3, hne3, hfr3⟩
    repeat' (first | refine qS ?_ | refine qN ?_ | refine qQb ?_ | refine Ac (fun _ => ?_) (fun _ => ?_) | refine Bl fun _ => ?_)
    have hB3 : H3 4 = H2 4 := hfr3 4 (by omega) (by omega) (by omega) (by omega) (by omega) (by omega)
    refine ⟨hil, w3, seen3, data3, hpw3, hne3, by omega, (fun j h1 j0 j1 j2 j3 j6 => by rw [hfr3 j (by omega) j0 j1 j2 j3 j6]; exact gfr j h1 j0 j1 j2 j3 j6), by rw [hB3]; exact gB9, ?_, rfl, rfl, rfl, rfl, rfl, by show AV.int _ _ = AV.int _ _; congr 1, trivial⟩
    cases hb3 : w3.bad with
    | true => exact .inr ⟨rfl, by rw [hb3] at hbd3; rw [hgo', Qn _ _ hbd3.symm]; exact hbd3.symm⟩
    | false =>
     obtain ⟨he3, hg3⟩ := hgd3 hb3
     rw [← he3] at hgo'
     refine .inl ⟨rfl, hgo', hg3, fun j h1 h2 => ?_⟩
     rw [he3, Bea l (nb l) 1 p (frm + i * 8 ^ 2) w' j (by omega)]
     exact hz j (by omega) h2
   ·skip
    obtain ⟨hbd, htb⟩ := hcase
    rw [hbd] at g3
    by_cases hp0 : p = 0
    ·have hp0' : (p : Int) = 0 := by omega
     repeat' (first
      | refine qS ?_ | refine qN ?_ | refine Es rfl rfl (by omega) (by omega) rfl rfl ?_ | refine hM (ps := ps) (i := i) rfl (by omega) (by omega) (by exact gB9) rfl rfl ?_
      | (rw [hpp]) | refine Fw ?_ | refine Be ?_ (hr := by exact g3) | refine Co ?_ (hr := by exact g3) | refine qQb ?_ | refine Ac (fun _ => ?_) (fun _ => ?_)
      | refine Bl fun _ => ?_)
     exact ⟨hil, w', seen', data', ⟨by rw [gav, hbd]; exact g3, g0, g1, g2, qm, qs, qd, qn, by rw [if_neg gne]; exact g6⟩, gne, by omega, gfr, gB9, .inr ⟨hbd, htb⟩, rfl, rfl, rfl, rfl, rfl, by show AV.int _ _ = AV.int _ _; congr 1, trivial⟩
    have hp0' : (p : Int) ≠ 0 := by omega
    by_cases hpn : nb l ≤ p
    ·skip
     repeat' (first
      | refine qS ?_ | refine qN ?_ | refine Es rfl rfl (by omega) (by omega) rfl rfl ?_ | refine hM (ps := ps) (i := i) rfl (by omega) (by omega) (by exact gB9) rfl rfl ?_
      | (rw [hpp]) | refine Fw ?_ | refine Be ?_ (hr := by exact g3) | refine Co ?_ (hr := by exact g3) | refine qQb ?_ | refine Ac (fun _ => ?_) (fun _ => ?_)
      | refine Bl fun _ => ?_)
     refine ⟨.inl rfl, w', seen', data', ⟨by rw [gav, hbd]; rfl, g0, g1, g2, qm, qs, qd, qn, by rw [if_neg gne]; exact g6⟩, by rw [hbd, htb], (fun h => by rw [hbd] at h; cases h), by omega, (fun _ => gne), (fun j h1 j0 j1 j2 j3 j6 => ?_)⟩
     rw [Df _ _ j3]
     exact gfr j h1 j0 j1 j2 j3 j6
    have hrec := Bgl (k - 1) (by omega) (f := f) (l := l) 7 p 1 (frm + i * 8 ^ 2) (by omega) H2 w' seen' data' ⟨by rw [gav, hbd]; exact g3, g0, g1, g2, qm, qs, qd, qn, by rw [if_neg gne]; exact g6⟩ hbd
    repeat' (first
     | refine qS ?_ | refine qN ?_ | refine Es rfl rfl (by omega) (by omega) rfl rfl ?_ | refine hM (ps := ps) (i := i) rfl (by omega) (by omega) (by exact gB9) rfl rfl ?_
     | (rw [hpp]) | refine Fw ?_ | refine Be ?_ (hr := by exact g3) | refine Co ?_ (hr := by exact g3) | refine Er hrec rfl rfl rfl ?_ | refine qQb ?_
     | refine Ac (fun _ => ?_) (fun _ => ?_) | refine Bl fun _ => ?_)
    rintro u H3 ⟨rfl, hpw3, hfr3⟩
    repeat' (first | refine qS ?_ | refine qN ?_ | refine qQb ?_ | refine Ac (fun _ => ?_) (fun _ => ?_) | refine Bl fun _ => ?_)
    have hB3 : H3 4 = H2 4 := hfr3 4 (by omega)
    exact ⟨hil, w', seen', data', hpw3, gne, by omega, (fun j h1 j0 j1 j2 j3 j6 => by rw [hfr3 j j3]; exact gfr j h1 j0 j1 j2 j3 j6), by rw [hB3]; exact gB9, .inr ⟨hbd, htb⟩, rfl, rfl, rfl, rfl, rfl, by show AV.int _ _ = AV.int _ _; congr 1, trivial⟩
  ·have hi8 : i = 8 := by omega
   repeat' (first | refine qS ?_ | refine qN ?_ | refine qQb ?_ | refine Ac (fun _ => ?_) (fun _ => ?_) | refine Bl fun _ => ?_)
   refine ⟨.inr rfl, w', seen', data', ⟨by rw [gav]; exact g3, g0, g1, g2, qm, qs, qd, qn, by rw [if_neg gne]; exact g6⟩, ?_, ?_, by omega, (fun _ => gne), gfr⟩
   ·rcases hcase with hcase | hcase
    ·rw [hcase.1, hcase.2.1, Ce (by omega)]; exact hcase.1.symm
    ·rw [hcase.1, hcase.2]
   ·intro hb0
    rcases hcase with hcase | hcase
    ·exact ⟨by rw [hcase.2.1, Ce (by omega)]; rfl, hcase.2.2.1⟩
    ·rw [hcase.1] at hb0; cases hb0
end Go.Proofs.YtkaiiopoilpjeaaGreat

