/- Lemmas. -/
import Derived.Test.YtkaiiopoilpjeaaGreatK9
set_option linter.unusedSimpArgs false
set_option linter.unusedVariables false
set_option maxRecDepth 10000
set_option maxHeartbeats 16000000
namespace Go.Proofs.YtkaiiopoilpjeaaGreat
open Go.AI
def Bag : Option WS → AV
 | some w => .tup [.islc false false 1 (NL w.m), Jn false w.nodes, .bool true]
 | none => .tup [.islc false true 0 [], .islc false true 0 [], .bool false]
def okI (seen data : List Bool) (i : Nat) : Bool := !((List.range i).any fun j => seen.getD j default && data.getD j default)
theorem Bhy (seen data : List Bool) (i : Nat) : okI seen data (i + 1) = (okI seen data i && !(seen.getD i default && data.getD i default)) := by
 unfold okI
 rw [Kt, Azl]
 simp only [Azj, Bkf, lM, Bool.not_or]
theorem Bke {seen data : List Bool} {i : Nat} (h : okI seen data i = false) : ∀ n, i ≤ n → okI seen data n = false := by
 intro n hn
 induction n with
 | zero => rw [Nat.le_zero.1 hn] at h; exact h
 | succ n ih =>
  by_cases he : i = n + 1
  ·rw [← he]; exact h
  ·rw [Bhy, ih (by omega)]; rfl
theorem Bld {n : Nat} {w : WS} {seen data : List Bool} (hg : Baa n w seen data) (hf : w.fit n) : okI seen data n = !(w.m.any fun b => w.nodes.any (b == ·)) := by
 unfold okI
 congr 1
 rw [Aye, Fm, Fm]
 constructor
 ·rintro ⟨j, hj, h⟩
  have hj := Cc.1 hj
  rw [Cl, (hg j hj).1, (hg j hj).2] at h
  exact ⟨j, h.2.1, Fm.2 ⟨j, h.1, by simp⟩⟩
 ·rintro ⟨b, hb, h⟩
  obtain ⟨y, hy, he⟩ := Fm.1 h
  have he : b = y := by simpa using he
  subst he
  have h2 := hf.2.2 b hy
  refine ⟨b, Cc.2 h2.2, ?_⟩
  rw [Cl, (hg b h2.2).1, (hg b h2.2).2]
  exact ⟨hy, hb, by omega⟩
attribute [local irreducible] aops Br Cp Dp aop W WO
def Azu (f : Bool) (l : List UInt8) (nv : AV) (ok : Bool) : Blk := ⟨1, false, .row 7 [.agg [.islc false f 1 (BL l), .int .i64 (nb l : Nat), nv, .slc 0 1 (nb l) 1 0 (nb l) none, .slc 1 1 (nb l) 1 0 (nb l) none, .slc 2 1 512 1 0 512 none, .bool ok]]⟩
theorem Biv {k : Nat} {f : Bool} {l : List UInt8} {nv : AV} {ok : Bool} {seen data : List Bool} {T : Tmps} {H : Heap} (hk : 1000000 ≤ k) (hd : Dev l) (gs : seen.length = nb l) (gd : data.length = nb l)
  (g3 : H 3 = Azu f l nv ok) (g0 : H 0 = ⟨1, false, .row 1 (seen.map AV.bool)⟩) (g1 : H 1 = ⟨1, false, .row 1 (data.map AV.bool)⟩)
  (hT : Has T [(7, .int .i64 (nb l : Nat)), (9, .ptr 3 1 1 7 0 0), (10, .int .i64 0)]) :
  W (Br (CF k) noX 0 k (.loop Bce) T H) (fun ex T' H' => ex = .exit 0 ∧ H' 3 = Azu f l nv (ok && okI seen data (nb l)) ∧ (∀ j, j ≠ 3 → H' j = H j) ∧ T' 9 = .ptr 3 1 1 7 0 0) := by
 have hn := hd.nb
 refine Fj (nb l) (fun i T' H' => H' 3 = Azu f l nv (ok && okI seen data i) ∧ (∀ j, j ≠ 3 → H' j = H j) ∧ Has T' [(7, .int .i64 (nb l : Nat)), (9, .ptr 3 1 1 7 0 0), (10, .int .i64 (i : Nat))]) ⟨by rw [g3]; unfold okI; simp, fun _ _ => rfl, hT⟩ (by omega) ?_
 rintro i T H2 hi ⟨h3, hfr, hT⟩
 have q0 := hfr 0 (by omega)
 have q1 := hfr 1 (by omega)
 rw [g0] at q0
 rw [g1] at q1
 rw [hT.eq]
 simp only [over]
 unfold Bce
 unfold Azu at h3
 obtain ⟨b, hb⟩ : ∃ b, b = (ok && okI seen data i) := ⟨_, rfl⟩
 rw [← hb] at h3
 by_cases hil : i < nb l
 ·have hix : 0 + (i : Int).toNat = i := by omega
  cases b with
  | false =>
   have hall : (ok && okI seen data (nb l)) = false := by
    cases ok with
    | false => rfl
    | true => rw [Ayh] at hb ⊢; exact Bke hb.symm _ hi
   repeat' (first | refine qS ?_ | refine qN ?_ | refine Be ?_ (hr := by exact h3) | refine qQb ?_ | refine Ac (fun _ => ?_) (fun _ => ?_))
   exact ⟨rfl, by rw [hall]; exact h3, hfr, rfl⟩
  | true =>
   have hst : (ok && okI seen data (i + 1)) = !(seen.getD i default && data.getD i default) := by
    rw [Bhy, ← Bool.and_assoc, ← hb, Ayh]
   cases hs : seen.getD i default with
   | false =>
    have hs' : seen.getD (0 + (i : Int).toNat) default = false := by rw [hix]; exact hs
    rw [hs] at hst
    repeat' (first
     | refine qS ?_ | refine qN ?_ | refine Be ?_ (hr := by exact h3)
     | refine Ds rfl rfl (by exact q0) (by rw [Ah]; exact gs) (by omega) (by omega) (by omega) rfl rfl ?_
     | refine Lt (enc := AV.bool) (l := seen) ?_ (hr := by exact q0) (hv0 := by exact gs) (hv := by exact Bo AV.bool hs') | refine Co ?_ (hr := by exact h3)
     | refine qQb ?_ | refine Ac (fun _ => ?_) (fun _ => ?_))
    refine ⟨hil, by rw [hst]; rfl, (fun j hj => ?_), rfl, rfl, by show AV.int _ _ = AV.int _ _; congr 1, trivial⟩
    rw [Df _ _ hj]; exact hfr j hj
   | true =>
    have hs' : seen.getD (0 + (i : Int).toNat) default = true := by rw [hix]; exact hs
    rw [hs] at hst
    cases hdt : data.getD i default with
    | false =>
     have hd' : data.getD (0 + (i : Int).toNat) default = false := by rw [hix]; exact hdt
     rw [hdt] at hst
     repeat' (first
      | refine qS ?_ | refine qN ?_ | refine Be ?_ (hr := by exact h3)
      | refine Ds rfl rfl (by exact q0) (by rw [Ah]; exact gs) (by omega) (by omega) (by omega) rfl rfl ?_
      | refine Lt (enc := AV.bool) (l := seen) ?_ (hr := by exact q0) (hv0 := by exact gs) (hv := by exact Bo AV.bool hs')
      | refine Ds rfl rfl (by exact q1) (by rw [Ah]; exact gd) (by omega) (by omega) (by omega) rfl rfl ?_
      | refine Lt (enc := AV.bool) (l := data) ?_ (hr := by exact q1) (hv0 := by exact gd) (hv := by exact Bo AV.bool hd') | refine Co ?_ (hr := by exact h3)
      | refine qQb ?_ | refine Ac (fun _ => ?_) (fun _ => ?_))
     refine ⟨hil, by rw [hst]; rfl, (fun j hj => ?_), rfl, rfl, by show AV.int _ _ = AV.int _ _; congr 1, trivial⟩
     rw [Df _ _ hj]; exact hfr j hj
    | true =>
     have hd' : data.getD (0 + (i : Int).toNat) default = true := by rw [hix]; exact hdt
     rw [hdt] at hst
     repeat' (first
      | refine qS ?_ | refine qN ?_ | refine Be ?_ (hr := by exact h3)
      | refine Ds rfl rfl (by exact q0) (by rw [Ah]; exact gs) (by omega) (by omega) (by omega) rfl rfl ?_
      | refine Lt (enc := AV.bool) (l := seen) ?_ (hr := by exact q0) (hv0 := by exact gs) (hv := by exact Bo AV.bool hs')
      | refine Ds rfl rfl (by exact q1) (by rw [Ah]; exact gd) (by omega) (by omega) (by omega) rfl rfl ?_
      | refine Lt (enc := AV.bool) (l := data) ?_ (hr := by exact q1) (hv0 := by exact gd) (hv := by exact Bo AV.bool hd') | refine Co ?_ (hr := by exact h3)
      | refine qQb ?_ | refine Ac (fun _ => ?_) (fun _ => ?_))
     refine ⟨hil, by rw [hst]; rfl, (fun j hj => ?_), rfl, rfl, by show AV.int _ _ = AV.int _ _; congr 1, trivial⟩
     rw [Df _ _ hj]; exact hfr j hj
 ·have hin : i = nb l := by omega
  subst hin
  repeat' (first | refine qS ?_ | refine qN ?_ | refine qQb ?_ | refine Ac (fun _ => ?_) (fun _ => ?_))
  exact ⟨rfl, by rw [← hb]; exact h3, hfr, rfl⟩
theorem Bkt (k : Nat) (hk : 1000100 ≤ k) (f : Bool) (l : List UInt8) (hd : Dev l) (root : Nat) : FnV (CF k) Bdu [.islc false f 1 (BL l), .int .i64 root] (Bag (goP l root)) := by
  have hck := Bec (k - 1) (by omega) false f l hd
  have hn := hd.nb
  have e : NL (List.replicate 512 0) = List.replicate 512 (.int .i64 (0 : Nat)) := by simp only [NL, Ij]
  have eb : ∀ n, (List.replicate n false).map AV.bool = List.replicate n (.bool false) := fun n => Ij
  refine fnk (by omega) Bgx rfl ?_
  unfold ref10_Tree
  by_cases h0 : root = 0
  · subst h0
    repeat' (first
      | refine qS ?_ | refine qN ?_ | refine Un 512 rfl rfl rfl (by decide) rfl rfl (by kernel_rfl) ?_ | refine Un (nb l) rfl rfl rfl (by omega) rfl rfl (by kernel_rfl) ?_
      | refine Kz (cs := [.islc false f 1 (BL l), .int .i64 (nb l : Nat), .islc false true 0 [], .slc 0 1 (nb l) 1 0 (nb l) none, .slc 1 1 (nb l) 1 0 (nb l) none, .slc 2 1 512 1 0 512 none, .bool true]) ?_ (hc := by kernel_rfl) (hl := by kernel_rfl)
      | refine Iw ?_ (hl := by kernel_rfl) | refine Xf ?_ (hl := by kernel_rfl) | refine Al (hck) (fun _ => ?_) (fun _ => ?_) | refine Ae (hck) ?_ | refine qQb ?_
      | refine Ac (fun _ => ?_) (fun _ => ?_))
    refine ⟨Or.inr rfl, .tup [.slc 2 1 512 1 0 512 none, .islc false true 0 [], .bool true], by kernel_rfl, ?_⟩
    rw [show goP l 0 = some ws0 from if_pos rfl]
    unfold Bag
    generalize hH : Heap.setRow _ _ _ _ = H
    have g2 : H 2 = ⟨1, false, .row 1 (NL (List.replicate 512 0))⟩ := by rw [← hH, e]; rfl
    show AV.tup [fz true 5 H (.slc 2 1 512 1 0 512 none), _, _] = _
    rw [Gb g2 (by simp) 3]
    show AV.tup _ = AV.tup [_, Jn false ws0.nodes, _]
    unfold Jn
    rw [if_pos (show ws0.nodes = [] from rfl)]; rfl
  have h0' : (root : Int) ≠ 0 := by omega
  repeat' (first
    | refine qS ?_ | refine qN ?_ | refine Un 512 rfl rfl rfl (by decide) rfl rfl (by kernel_rfl) ?_ | refine Un (nb l) rfl rfl rfl (by omega) rfl rfl (by kernel_rfl) ?_
    | refine Kz (cs := [.islc false f 1 (BL l), .int .i64 (nb l : Nat), .islc false true 0 [], .slc 0 1 (nb l) 1 0 (nb l) none, .slc 1 1 (nb l) 1 0 (nb l) none, .slc 2 1 512 1 0 512 none, .bool true]) ?_ (hc := by kernel_rfl) (hl := by kernel_rfl)
    | refine Iw ?_ (hl := by kernel_rfl) | refine Xf ?_ (hl := by kernel_rfl) | refine Al (hck) (fun _ => ?_) (fun _ => ?_) | refine Ae (hck) ?_ | refine qQb ?_
    | refine Ac (fun _ => ?_) (fun _ => ?_))
  have hz512 : ∀ j, (List.replicate 512 0).getD j default = 0 := fun j => by
    simp only [Af, Ub]
    by_cases h : j < 512 <;> simp [h]
  have hrn := fun H hw => Blx (k - 1) (by omega) f l hd root 0 (by decide) H ws0 (List.replicate (nb l) false) (List.replicate (nb l) false) hw rfl (fun a ha => ⟨by rw [kJ]; simp [ws0], by
      rw [kJ]
      refine ⟨fun h => h.elim, fun ⟨h1, h2⟩ => h2 (Fa h1)⟩⟩) (fun j _ _ => hz512 j) rfl (by decide)
  have hgr : goP l root = if (Fk l (nb l) 2 root 0 ws0).bad = true ∨ ((Fk l (nb l) 2 root 0 ws0).m.any fun b => (Fk l (nb l) 2 root 0 ws0).nodes.any (b == ·)) = true then none else some (Fk l (nb l) 2 root 0 ws0) := by unfold goP; rw [if_neg h0]
  have hfit : (Fk l (nb l) 2 root 0 ws0).fit (nb l) := xN l (nb l) 2 root 0 ws0 ⟨by simp [ws0], (fun b hb => by
    have := Fa hb
    omega), fun a ha => by cases ha⟩
  rw [hgr]
  generalize Fk l (nb l) 2 root 0 ws0 = tg at hrn hfit ⊢
  repeat' (first
    | refine qS ?_ | refine qN ?_
    | refine Er (hrn _ ⟨by unfold kV; rw [if_pos (by rfl)]; rfl, by rw [eb]; rfl, by rw [eb]; rfl, by show (⟨1, false, .row 1 (List.replicate 512 (.int .i64 (0 : Nat)))⟩ : Blk) = ⟨1, false, .row 1 (NL (List.replicate 512 0))⟩; rw [e], by simp [ws0], by simp, by simp, by simp [ws0], by rw [if_pos (by rfl)]; rfl⟩) rfl rfl rfl ?_
    | refine qQb ?_ | refine Ac (fun _ => ?_) (fun _ => ?_))
  rintro u H3 ⟨rfl, w', seen, data, ⟨g3, g0, g1, g2, gm, gs, gd, gn, g6⟩, hbd, hgd, hct, hne, hfr⟩
  repeat' (first | refine qS ?_ | refine qN ?_ | refine qQb ?_ | refine Ac (fun _ => ?_) (fun _ => ?_))
  refine W.mono (Biv (k := k - 1) (f := f) (l := l) (nv := kV w'.nodes) (ok := !w'.bad) (by omega) hd gs gd g3 g0 g1 ⟨rfl, rfl, rfl, trivial⟩) ?_
  rintro ex T H4 ⟨rfl, h3, hfr4, h9⟩
  rw [Has.eq (T := T) (ps := [(9, _)]) ⟨h9, trivial⟩]
  simp only [over]
  show W _ _
  have h2 := hfr4 2 (by omega)
  rw [g2] at h2
  have h6 := hfr4 6 (by omega)
  cases hb : w'.bad with
  | true =>
    rw [hb] at hbd h3
    rw [if_pos (.inl hbd.symm)]
    have h3' : H4 3 = Azu f l (kV w'.nodes) false := h3
    unfold Azu at h3'
    repeat' (first | refine qS ?_ | refine qN ?_ | refine Be ?_ (hr := by exact h3') | refine qQb ?_ | refine Ac (fun _ => ?_) (fun _ => ?_))
    exact ⟨Or.inr rfl, _, rfl, rfl⟩
  | false =>
    obtain ⟨rfl, hg⟩ := hgd hb
    rw [hb, Bld hg hfit] at h3
    have hgne := hne hb
    cases ha : w'.m.any fun b => w'.nodes.any (b == ·) with
    | true =>
      rw [if_pos (.inr rfl)]
      rw [ha] at h3
      have h3' : H4 3 = Azu f l (kV w'.nodes) false := h3
      unfold Azu at h3'
      repeat' (first | refine qS ?_ | refine qN ?_ | refine Be ?_ (hr := by exact h3') | refine qQb ?_ | refine Ac (fun _ => ?_) (fun _ => ?_))
      exact ⟨Or.inr rfl, _, rfl, rfl⟩
    | false =>
      rw [if_neg (by rintro (h | h); · rw [hb] at h; cases h
                     · cases h)]
      rw [ha] at h3
      have h3' : H4 3 = Azu f l (kV w'.nodes) true := h3
      unfold Azu at h3'
      rw [if_neg hgne] at g6
      have hav : kV w'.nodes = .slc 6 1 w'.nodes.length 1 0 w'.nodes.length none := by unfold kV; rw [if_neg hgne]
      rw [hav] at h3'
      repeat' (first | refine qS ?_ | refine qN ?_ | refine Be ?_ (hr := by exact h3') | refine qQb ?_ | refine Ac (fun _ => ?_) (fun _ => ?_))
      refine ⟨Or.inr rfl, .tup [.slc 2 1 512 1 0 512 none, .slc 6 1 w'.nodes.length 1 0 w'.nodes.length none, .bool true], by kernel_rfl, ?_⟩
      show AV.tup [fz true 5 H4 (.slc 2 1 512 1 0 512 none), fz true 5 H4 (.slc 6 1 w'.nodes.length 1 0 w'.nodes.length none), _] = _
      rw [Gb h2 gm 3, Gb (h6.trans g6) rfl 3]
      unfold Bag Jn
      simp only
      rw [if_neg hgne]; rfl
def Azp (p : Nat → Bool) (n : Nat) : Nat := (List.range n).findIdx p
theorem Bfr (p : Nat → Bool) (n : Nat) : Azp p n ≤ n := by
 have := List.findIdx_le_length (p := p) (xs := List.range n)
 simpa [Azp] using this
theorem Bex {p : Nat → Bool} {n b : Nat} (h : b < Azp p n) : p b = false := by
 have h1 := Bfr p n
 have h2 := List.not_of_lt_findIdx (p := p) (xs := List.range n) (i := b) (by simpa [Azp] using h)
 simpa using h2
theorem Bdx {p : Nat → Bool} {n : Nat} (h : Azp p n < n) : p (Azp p n) = true := by
 have h2 := List.findIdx_getElem (p := p) (xs := List.range n) (w := by simpa [Azp] using h)
 rw [fH] at h2
 exact h2
theorem Bbq {p : Nat → Bool} {n m : Nat} (hm : m ≤ n) (h1 : ∀ b, b < m → p b = false) (h2 : m < n → p m = true) : Azp p n = m := by
 have hl := Bfr p n
 rcases Nat.lt_trichotomy (Azp p n) m with h | h | h
 ·have := Bdx (p := p) (n := n) (by omega)
  rw [h1 _ h] at this; cases this
 ·exact h
 ·have := Bex (p := p) (n := n) h
  rw [h2 (by omega)] at this; cases this
theorem Bgq {p q : Nat → Bool} {n a : Nat} {c : Bool} (ha : a < n) (hb : ∀ b, b ≠ a → q b = p b) (hq : q a = (p a || c)) : Azp q n = if c = true then min (Azp p n) a else Azp p n := by
 have hl := Bfr p n
 cases c with
 | true =>
  rw [if_pos rfl]
  rw [Bool.or_true] at hq
  refine Bbq (by omega) (fun b h => ?_) (fun h => ?_)
  ·rw [hb b (by omega)]; exact Bex (n := n) (by omega)
  ·by_cases hm : Azp p n < a
   ·rw [Ml (by omega), hb _ (by omega)]; exact Bdx (by omega)
   ·rw [Nat.min_eq_right (by omega)]; exact hq
 | false =>
  rw [if_neg (by decide)]
  rw [lM] at hq
  have : ∀ b, q b = p b := fun b => by
   by_cases h : b = a
   ·rw [h]; exact hq
   ·exact hb b h
  exact Bbq hl (fun b h => by rw [this]; exact Bex h) (fun h => by rw [this]; exact Bdx h)
def bad3 (nd rc sc : List Bool) (n : Nat) : Nat := Azp (clAt nd rc sc) n
theorem Bhv {n : Nat} {bl : List Nat} {ts : List WS} (hb : ∀ a ∈ bl, 2 ≤ a ∧ a < n) (ht : ∀ w ∈ ts, w.fit n) :
  (bad3 (ts.foldl mkN (List.replicate n false)) (bl.foldl mark (List.replicate n false)) (ts.foldl mkS (List.replicate n false)) n = n ∧ Px n bl ts = 0) ∨
  (bad3 (ts.foldl mkN (List.replicate n false)) (bl.foldl mark (List.replicate n false)) (ts.foldl mkS (List.replicate n false)) n < n ∧ Px n bl ts = bad3 (ts.foldl mkN (List.replicate n false)) (bl.foldl mark (List.replicate n false)) (ts.foldl mkS (List.replicate n false)) n ∧ Px n bl ts ≠ 0) := by
 have h0 : ∀ a, Tr bl ts a → 2 ≤ a ∧ a < n := by
  rintro a (⟨⟨_, _⟩, ⟨w, hw, hn⟩ | hb'⟩ | ⟨_, hb'⟩)
  ·exact (ht w hw).2.2 a hn
  ·exact hb a hb'
  ·exact hb a hb'
 rcases Abt (n := n) (bl := bl) (ts := ts) with ⟨h1, h2⟩ | ⟨h1, h2, h3⟩
 ·left
  refine ⟨Bbq (Au _) (fun b hb2 => ?_) (fun h => absurd h (Nat.lt_irrefl _)), h1⟩
  rw [jA]
  intro h
  have h4 := (qF hb2).1 h
  exact h2 b (by have := h0 b h4; omega) hb2 h4
 ·right
  have he : bad3 (ts.foldl mkN (List.replicate n false)) (bl.foldl mark (List.replicate n false)) (ts.foldl mkS (List.replicate n false)) n = Px n bl ts := by
   refine Bbq (by omega) (fun b hb2 => ?_) (fun _ => (qF h1).2 h2)
   rw [jA]
   intro h
   exact h3 b hb2 ((qF (by omega)).1 h)
  rw [he]
  exact ⟨h1, rfl, by have := h0 _ h2; omega⟩
theorem Bjv {nd rc sc : List Bool} {a n : Nat} (ha : a < n) (hn : nd.length = n) : bad3 (mark nd a) rc sc n = if (rc.getD a default || sc.getD a default) = true then min (bad3 nd rc sc n) a else bad3 nd rc sc n := by
 refine Bgq ha (fun b hb => ?_) ?_
 ·unfold clAt mark; rw [Jj, if_neg (fun h => hb h.1.symm)]
 ·unfold clAt mark; rw [Jj, if_pos ⟨rfl, by omega⟩]
  cases sc.getD a default <;> cases rc.getD a default <;> cases nd.getD a default <;> rfl
theorem Bix {nd rc sc : List Bool} {a n : Nat} (ha : a < n) (h0 : a ≠ 0) (hn : sc.length = n) : bad3 nd rc (aZ sc a) n = if (nd.getD a default || rc.getD a default) = true then min (bad3 nd rc sc n) a else bad3 nd rc sc n := by
 refine Bgq ha (fun b hb => ?_) ?_
 ·unfold clAt aZ; rw [Jj, if_neg (fun h => hb h.1.symm)]
 ·unfold clAt aZ; rw [Jj, if_pos ⟨rfl, by omega⟩, As h0, Bool.or_true]
  cases sc.getD a default <;> cases rc.getD a default <;> cases nd.getD a default <;> rfl
theorem Blc (sc : List Bool) : aZ sc 0 = sc := by
 unfold aZ
 rw [show decide ((0 : Nat) ≠ 0) = false from rfl, lM]
 cases sc with
 | nil => rfl
 | cons x xs => rfl
def Bca (x y z : Bool) : Nat := (if x = true then 1 else 0) + (if y = true then 2 else 0) + (if z = true then 4 else 0)
def IsOk (n : Nat) (is : List Nat) (nd rc sc : List Bool) : Prop := is.length = n ∧ nd.length = n ∧ rc.length = n ∧ sc.length = n ∧ ∀ a, a < n → is.getD a default = Bca (nd.getD a default) (rc.getD a default) (sc.getD a default)
theorem IsOk.node {n : Nat} {is : List Nat} {nd rc sc : List Bool} (h : IsOk n is nd rc sc) {a : Nat} (ha : a < n) : IsOk n (if is.getD a default % 2 = 0 then is.set a (is.getD a default + 1) else is) (mark nd a) rc sc := by
 obtain ⟨h1, h2, h3, h4, h5⟩ := h
 refine ⟨by split <;> simp [h1], by simp [mark, h2], h3, h4, fun b hb => ?_⟩
 have ha5 := h5 a ha
 have hm : (mark nd a).getD b default = if a = b then true else nd.getD b default := by
  unfold mark; rw [Jj]
  by_cases hab : a = b
  ·rw [if_pos ⟨hab, by omega⟩, if_pos hab]
  ·rw [if_neg (fun h => hab h.1), if_neg hab]
 rw [hm]
 by_cases hab : a = b
 ·subst hab
  rw [if_pos rfl]
  cases hx : nd.getD a default with
  | true =>
   have : is.getD a default % 2 = 1 := by rw [ha5, hx]; unfold Bca; cases rc.getD a default <;> cases sc.getD a default <;> rfl
   rw [if_neg (by omega), ha5, hx]
  | false =>
   have : is.getD a default % 2 = 0 := by rw [ha5, hx]; unfold Bca; cases rc.getD a default <;> cases sc.getD a default <;> rfl
   rw [if_pos this, Jj, if_pos ⟨rfl, by omega⟩, ha5, hx]
   unfold Bca; cases rc.getD a default <;> cases sc.getD a default <;> rfl
 ·rw [if_neg hab, ← h5 b hb]
  split
  ·rw [Jj, if_neg (fun h => hab h.1)]
  ·rfl
theorem IsOk.sector {n : Nat} {is : List Nat} {nd rc sc : List Bool} (h : IsOk n is nd rc sc) {a : Nat} (ha : a < n) (h0 : a ≠ 0) : IsOk n (if is.getD a default / 4 = 0 then is.set a (is.getD a default + 4) else is) nd rc (aZ sc a) := by
 obtain ⟨h1, h2, h3, h4, h5⟩ := h
 refine ⟨by split <;> simp [h1], h2, h3, by simp [aZ, h4], fun b hb => ?_⟩
 have ha5 := h5 a ha
 have hm : (aZ sc a).getD b default = if a = b then true else sc.getD b default := by
  unfold aZ; rw [Jj, As h0, Bool.or_true]
  by_cases hab : a = b
  ·rw [if_pos ⟨hab, by omega⟩, if_pos hab]
  ·rw [if_neg (fun h => hab h.1), if_neg hab]
 rw [hm]
 by_cases hab : a = b
 ·subst hab
  rw [if_pos rfl]
  cases hx : sc.getD a default with
  | true =>
   have : ¬ is.getD a default / 4 = 0 := by rw [ha5, hx]; unfold Bca; cases rc.getD a default <;> cases nd.getD a default <;> decide
   rw [if_neg this, ha5, hx]
  | false =>
   have : is.getD a default / 4 = 0 := by rw [ha5, hx]; unfold Bca; cases rc.getD a default <;> cases nd.getD a default <;> rfl
   rw [if_pos this, Jj, if_pos ⟨rfl, by omega⟩, ha5, hx]
   unfold Bca; cases rc.getD a default <;> cases nd.getD a default <;> rfl
 ·rw [if_neg hab, ← h5 b hb]
  split
  ·rw [Jj, if_neg (fun h => hab h.1)]
  ·rfl
theorem IsOk.lt {n : Nat} {is : List Nat} {nd rc sc : List Bool} (h : IsOk n is nd rc sc) {a : Nat} (ha : a < n) : is.getD a default < 8 := by
 rw [h.2.2.2.2 a ha]; unfold Bca
 cases nd.getD a default <;> cases rc.getD a default <;> cases sc.getD a default <;> decide
theorem Ber {k : Nat} {m : List Nat} {size : Nat} {okb : Bool} {mv v0 v2 v3 v4 v5 v7 v8 v9 v10 v12 v13 v14 v16 : AV} {T : Tmps} {H : Heap} (hk : 1000000 ≤ k) (hs : size ≤ 512) (hm : okb = true → mv = .islc false false 1 (NL m) ∧ m.length = 512)
  (hT : Has T [(0, v0), (2, v2), (3, v3), (4, v4), (5, v5), (7, v7), (8, v8), (9, v9), (10, v10), (12, v12), (13, v13), (14, v14), (15, mv), (16, v16), (17, .bool okb), (18, .int .i64 (size : Nat))]) :
  W (Br (CF k) noX 0 k (.loop Bcc) T H) (fun ex T' H' => ex = .exit 2 ∧ H' = H ∧ Has T' [(0, v0), (2, v2), (3, v3), (4, v4), (5, v5), (7, v7), (8, v8), (9, v9), (10, v10), (12, v12), (13, v13), (14, v14), (15, mv), (16, v16), (17, .bool (okb && !Mz m size))]) := by
 refine Fj (512 - size) (fun i T' H' => H' = H ∧ Has T' [(0, v0), (2, v2), (3, v3), (4, v4), (5, v5), (7, v7), (8, v8), (9, v9), (10, v10), (12, v12), (13, v13), (14, v14), (15, mv), (16, v16), (17, .bool (okb && !(((m.drop size).take i).any fun b => decide (b ≠ 0)))), (18, .int .i64 ((size + i : Nat) : Int))]) ⟨rfl, ?_⟩ (by omega) ?_
 ·simpa using hT
 rintro i T H hi ⟨rfl, hT⟩
 obtain ⟨b, hb⟩ : ∃ b, b = (okb && !(((m.drop size).take i).any fun b => decide (b ≠ 0))) := ⟨_, rfl⟩
 rw [← hb] at hT
 rw [hT.eq]
 simp only [over]
 unfold Bcc
 cases b with
 | false =>
  have hall : (okb && !Mz m size) = false := by
   cases okb with
   | false => rfl
   | true =>
    rw [Ayh] at hb ⊢
    have hb : (((m.drop size).take i).any fun b => decide (b ≠ 0)) = true := by simpa using hb.symm
    obtain ⟨y, hy, h⟩ := Fm.1 hb
    unfold Mz
    rw [show ((m.drop size).any fun b => decide (b ≠ 0)) = true from Fm.2 ⟨y, Bs hy, h⟩]; rfl
  by_cases hlt : size + i < 512
  ·skip
   repeat' (first | refine qS ?_ | refine qN ?_ | refine qQb ?_ | refine Ac (fun _ => ?_) (fun _ => ?_))
   exact ⟨rfl, rfl, rfl, rfl, rfl, rfl, rfl, rfl, rfl, rfl, rfl, rfl, rfl, rfl, rfl, rfl, by rw [hall]; rfl, trivial⟩
  ·skip
   repeat' (first | refine qS ?_ | refine qN ?_ | refine qQb ?_ | refine Ac (fun _ => ?_) (fun _ => ?_))
   exact ⟨rfl, rfl, rfl, rfl, rfl, rfl, rfl, rfl, rfl, rfl, rfl, rfl, rfl, rfl, rfl, rfl, by rw [hall]; rfl, trivial⟩
 | true =>
  have hok : okb = true := by cases okb with
   | true => rfl
   | false => cases hb
  subst hok
  obtain ⟨rfl, hml⟩ := hm rfl
  rw [Ayh] at hb
  by_cases hlt : size + i < 512
  ·have hst : (((m.drop size).take (i + 1)).any fun b => decide (b ≠ 0)) = decide (m.getD (size + i) default ≠ 0) := by
    rw [Av (by simp; omega), Azl, show (((m.drop size).take i).any fun b => decide (b ≠ 0)) = false by simpa using hb.symm, Azi]
    simp only [Azj, Bkf, lM, Qg]
    have : m.getD (size + i) default = m[size + i] := by simp [hml, hlt]
    rw [this]
   obtain ⟨p, hp⟩ : ∃ p, p = m.getD (size + i) default := ⟨_, rfl⟩
   rw [← hp] at hst
   have hp2 : m.getD ((size + i : Nat) : Int).toNat default = p := by rw [Bd]; exact hp.symm
   by_cases hp0 : p = 0
   ·have hp0' : (p : Int) = 0 := by omega
    repeat' (first | refine qS ?_ | refine qN ?_ | refine Ll (enc := nav) (l := m) p rfl rfl hml (by omega) (by omega) hp2 rfl rfl ?_ | refine qQb ?_ | refine Ac (fun _ => ?_) (fun _ => ?_))
    refine ⟨by omega, rfl, rfl, rfl, rfl, rfl, rfl, rfl, rfl, rfl, rfl, rfl, rfl, rfl, rfl, rfl, by rw [hst, Bb (fun h => h hp0)]; rfl, by show AV.int _ _ = AV.int _ _; congr 1, trivial⟩
   ·have hp0' : (p : Int) ≠ 0 := by omega
    repeat' (first | refine qS ?_ | refine qN ?_ | refine Ll (enc := nav) (l := m) p rfl rfl hml (by omega) (by omega) hp2 rfl rfl ?_ | refine qQb ?_ | refine Ac (fun _ => ?_) (fun _ => ?_))
    refine ⟨by omega, rfl, rfl, rfl, rfl, rfl, rfl, rfl, rfl, rfl, rfl, rfl, rfl, rfl, rfl, rfl, by rw [hst, As hp0]; rfl, by show AV.int _ _ = AV.int _ _; congr 1, trivial⟩
  ·have hend : (true && !Mz m size) = true := by
    unfold Mz
    rw [Ayh, hb, Ai (by simp; omega)]
   repeat' (first | refine qS ?_ | refine qN ?_ | refine qQb ?_ | refine Ac (fun _ => ?_) (fun _ => ?_))
   exact ⟨rfl, rfl, rfl, rfl, rfl, rfl, rfl, rfl, rfl, rfl, rfl, rfl, rfl, rfl, rfl, rfl, by rw [hend]; rfl, trivial⟩
theorem IsOk.rec {n : Nat} {is : List Nat} {rc : List Bool} (h : IsOk n is (List.replicate n false) rc (List.replicate n false)) {a : Nat} (ha : a < n) : IsOk n (is.set a 2) (List.replicate n false) (mark rc a) (List.replicate n false) := by
 obtain ⟨h1, h2, h3, h4, h5⟩ := h
 refine ⟨by simp [h1], h2, by simp [mark, h3], h4, fun b hb => ?_⟩
 have hf : ∀ b, (List.replicate n false).getD b default = false := fun b => by rw [jA]; exact fun h => (kJ n b).1 h
 rw [hf]
 unfold mark
 rw [Jj, Jj]
 by_cases hab : a = b
 ·rw [if_pos ⟨hab, by omega⟩, if_pos ⟨hab, by omega⟩]; rfl
 ·rw [if_neg (fun h => hab h.1), if_neg (fun h => hab h.1), h5 b hb, hf]
theorem Bkv {k n : Nat} {bl is : List Nat} {v0 v2 v3 v4 : AV} {T : Tmps} {H : Heap} (hk : 1000000 ≤ k) (hl : bl.length < 1000) (hn : n < 100000) (hb : ∀ a ∈ bl, a < n) (h8 : H 8 = ⟨1, false, .row 1 (NL is)⟩) (hok : IsOk n is (List.replicate n false) (List.replicate n false) (List.replicate n false))
  (hT : Has T [(0, v0), (2, v2), (3, v3), (4, v4), (5, .int .i64 (n : Nat)), (10, .islc false false 1 (NL bl)), (19, .slc 8 1 n 1 0 n none), (20, .int .i64 0)]) :
  W (Br (CF k) noX 0 k (.loop Bbw) T H) (fun ex T' H' => ex = .exit 4 ∧ (∀ j, j ≠ 8 → H' j = H j) ∧ (∃ is', H' 8 = ⟨1, false, .row 1 (NL is')⟩ ∧ IsOk n is' (List.replicate n false) (bl.foldl mark (List.replicate n false)) (List.replicate n false)) ∧ Has T' [(0, v0), (2, v2), (3, v3), (4, v4), (5, .int .i64 (n : Nat)), (19, .slc 8 1 n 1 0 n none)]) := by
 refine Fj bl.length (fun i T' H' => (∀ j, j ≠ 8 → H' j = H j) ∧ (∃ is', H' 8 = ⟨1, false, .row 1 (NL is')⟩ ∧ IsOk n is' (List.replicate n false) ((bl.take i).foldl mark (List.replicate n false)) (List.replicate n false)) ∧ Has T' [(0, v0), (2, v2), (3, v3), (4, v4), (5, .int .i64 (n : Nat)), (10, .islc false false 1 (NL bl)), (19, .slc 8 1 n 1 0 n none), (20, .int .i64 (i : Nat))]) ⟨fun _ _ => rfl, ⟨is, h8, hok⟩, hT⟩ (by omega) ?_
 rintro i T H2 hi ⟨hfr, ⟨is', g8, gok⟩, hT⟩
 rw [hT.eq]
 simp only [over]
 unfold Bbw
 by_cases hil : i < bl.length
 ·obtain ⟨p, hp⟩ : ∃ p, p = bl.getD i default := ⟨_, rfl⟩
  have hp2 : bl.getD (i : Int).toNat default = p := by rw [Bd]; exact hp.symm
  have hpn : p < n := by rw [hp]; exact hb _ (by simp [hil])
  have hil1 := gok.1
  repeat' (first
   | refine qS ?_ | refine Bh (n := bl.length) rfl (Bm _) rfl rfl ?_ | refine Ll (enc := nav) (l := bl) p rfl rfl (by omega) (by omega) hp2 rfl rfl ?_
   | refine Ds rfl rfl (by exact g8) (by rw [Bm]; exact hil1) (by omega) (by omega) (by omega) rfl rfl ?_
   | refine Ek (enc := nav) (l := is') (a := 2) ?_ (hr := by exact g8) (hv0 := by exact hil1) | refine qQb ?_ | refine Ac (fun _ => ?_) (fun _ => ?_))
  refine ⟨hil, (fun j hj => by rw [Df _ _ hj]; exact hfr j hj), ⟨is'.set p 2, ?_, ?_⟩, rfl, rfl, rfl, rfl, rfl, rfl, rfl, by show AV.int _ _ = AV.int _ _; congr 1, trivial⟩
  ·show (⟨1, false, .row 1 ((is'.set (0 + (p : Int).toNat) 2).map nav)⟩ : Blk) = _
   rw [show 0 + (p : Int).toNat = p by omega]; rfl
  ·rw [Mt _ _ hil, ← hp]; exact gok.rec hpn
 ·have hin : i = bl.length := by omega
  subst hin
  rw [Ch] at gok
  repeat' (first | refine qS ?_ | refine Bh (n := bl.length) rfl (Bm _) rfl rfl ?_ | refine qQb ?_ | refine Ac (fun _ => ?_) (fun _ => ?_))
  exact ⟨rfl, hfr, ⟨is', g8, gok⟩, rfl, rfl, rfl, rfl, rfl, rfl, trivial⟩
theorem Bkk {k n ix : Nat} {nl is : List Nat} {t' f' : Bool} {s' : Nat} {es7 : List AV} {nd rc sc : List Bool} {v0 v2 v3 c0 c1 c2 c3 c4 c5 c6 c7 c8 : AV} {T : Tmps} {H : Heap} (hk : 1000000 ≤ k) (hl : nl.length < 1000) (hn : n < 100000) (hix : ix < 1000) (hb : ∀ a ∈ nl, a < n)
    (hs : s' = 1 ∨ nl = []) (he : es7[ix]? = some (.islc t' f' s' (NL nl))) (h2 : H 2 = ⟨1, false, .row 10 [.agg [c0, c1, c2, c3, c4, c5, c6, c7, c8, .slc 7 1 es7.length 1 0 es7.length none]]⟩) (h7 : H 7 = ⟨1, false, .row 1 es7⟩) (h8 : H 8 = ⟨1, false, .row 1 (NL is)⟩) (hok : IsOk n is nd rc sc)
    (hT : Has T [(0, v0), (2, v2), (3, v3), (4, .ptr 2 1 1 10 0 0), (5, .int .i64 (n : Nat)), (11, .int .i64 (bad3 nd rc sc n : Nat)), (19, .slc 8 1 n 1 0 n none), (21, .int .i64 (ix : Nat)), (22, .int .i64 0)]) :
    W (Br (CF k) noX 0 k (.loop Bcl) T H) (fun ex T' H' => ex = .exit 8 ∧ (∀ j, j ≠ 8 → H' j = H j) ∧ (∃ is', H' 8 = ⟨1, false, .row 1 (NL is')⟩ ∧ IsOk n is' (nl.foldl mark nd) rc sc) ∧ Has T' [(0, v0), (2, v2), (3, v3), (4, .ptr 2 1 1 10 0 0), (5, .int .i64 (n : Nat)), (11, .int .i64 (bad3 (nl.foldl mark nd) rc sc n : Nat)), (19, .slc 8 1 n 1 0 n none), (21, .int .i64 (ix : Nat))]) := by
  have hil7 : ix < es7.length := (Em.1 he).1
  have he' : es7[0 + (ix : Int).toNat]? = some (.islc t' f' s' (NL nl)) := by rw [show 0 + (ix : Int).toNat = ix by omega]; exact he
  refine Fj nl.length (fun i T' H' => (∀ j, j ≠ 8 → H' j = H j) ∧ (∃ is', H' 8 = ⟨1, false, .row 1 (NL is')⟩ ∧ IsOk n is' ((nl.take i).foldl mark nd) rc sc) ∧ Has T' [(0, v0), (2, v2), (3, v3), (4, .ptr 2 1 1 10 0 0), (5, .int .i64 (n : Nat)), (11, .int .i64 (bad3 ((nl.take i).foldl mark nd) rc sc n : Nat)), (19, .slc 8 1 n 1 0 n none), (21, .int .i64 (ix : Nat)), (22, .int .i64 (i : Nat))]) ⟨fun _ _ => rfl, ⟨is, h8, hok⟩, hT⟩ (by omega) ?_
  rintro i T H2 hi ⟨hfr, ⟨is', g8, gok⟩, hT⟩
  have g2 := hfr 2 (by omega)
  rw [h2] at g2
  have g7 := hfr 7 (by omega)
  rw [h7] at g7
  rw [hT.eq]
  simp only [over]
  unfold Bcl
  by_cases hil : i < nl.length
  · obtain rfl : s' = 1 := hs.resolve_right (fun h => by rw [h] at hil; simp at hil)
    obtain ⟨p, hp⟩ : ∃ p, p = nl.getD i default := ⟨_, rfl⟩
    have hp2 : nl.getD (i : Int).toNat default = p := by rw [Bd]; exact hp.symm
    have hpn : p < n := by rw [hp]; exact hb _ (by simp [hil])
    have hst := gok.node hpn
    have hl1 := gok.1
    have hbm := Bjv (nd := (nl.take i).foldl mark nd) (rc := rc) (sc := sc) hpn gok.2.1
    rw [Mt _ _ hil, ← hp]
    generalize (nl.take i).foldl mark nd = nd' at *
    rw [hbm]
    have hix0 : 0 + (p : Int).toNat = p := by omega
    repeat' (first
      | refine qS ?_ | refine qN ?_ | refine Bh (n := nl.length) rfl (Bm _) rfl rfl ?_ | refine Ds rfl rfl (by exact g7) rfl (by omega) (by omega) (by omega) rfl rfl ?_
      | refine Be ?_ (hr := by exact g2) | refine Ps (.islc t' f' 1 (NL nl)) rfl (by exact g7) rfl (by exact he') (by exact Ax rfl) rfl rfl rfl ?_
      | refine Ll (enc := nav) (l := nl) p rfl rfl (by omega) (by omega) hp2 rfl rfl ?_ | refine qQ ?_ | refine Ac (fun _ => ?_) (fun _ => ?_))
    refine Beq [(0, v0), (2, v2), (3, v3), (4, .ptr 2 1 1 10 0 0), (5, .int .i64 (n : Nat)), (11, .int .i64 (bad3 nd' rc sc n : Nat)), (19, .slc 8 1 n 1 0 n none), (21, .int .i64 (ix : Nat)), (22, .int .i64 (i : Nat)), (23, .int .i64 (p : Nat)), (165, .slc 8 1 n 1 0 n none), (166, .int .i64 (p : Nat))] ⟨by kernel_rfl, by kernel_rfl, by kernel_rfl, by kernel_rfl, by kernel_rfl, by kernel_rfl, by kernel_rfl, by kernel_rfl, by kernel_rfl, by kernel_rfl, by kernel_rfl, by kernel_rfl, trivial⟩ (fun T hT => ?_)
    simp only [over]
    clear hT
    cases hx : nd'.getD p default <;> cases hy : rc.getD p default <;> cases hz : sc.getD p default
    all_goals
      have hbv2 := gok.2.2.2.2 p hpn
      rw [hx, hy, hz] at hbv2
      simp only [Bca, reduceIte, Ey, Cq, Nat.reduceAdd, Az] at hbv2
      have hbv := (Bo (fun q => is'.getD q default) hix0).trans hbv2
      rw [hbv2] at hst
      repeat' (first
        | refine qS ?_ | refine qN ?_ | refine Ds rfl rfl (by exact g8) (by rw [Bm]; exact hl1) (by omega) (by omega) (by omega) rfl rfl ?_
        | refine Lt (enc := nav) (l := is') ?_ (hr := by exact g8) (hv0 := by exact hl1) (hv := by exact Bo nav hbv)
        | refine Ek (enc := nav) (l := is') (a := is'.getD p default + 1) ?_ (hr := by exact g8) (hv0 := by exact hl1) (hy := by rw [hbv2]; rfl) | refine qQ ?_
        | refine Ac (fun _ => ?_) (fun _ => ?_))
      first
        | (refine ⟨hil, (fun j hj => by rw [Df _ _ hj]; exact hfr j hj), ⟨is'.set p (is'.getD p default + 1), ?_, ?_⟩, rfl, rfl, rfl, rfl, rfl, ?_, rfl, rfl, by show AV.int _ _ = AV.int _ _; congr 1, trivial⟩
           · show (⟨1, false, .row 1 ((is'.set (0 + (p : Int).toNat) (is'.getD p default + 1)).map nav)⟩ : Blk) = _
             rw [hix0]; rfl
           · rw [if_pos (by decide), ← hbv2] at hst; exact hst
           · first
               | (rw [if_pos (by decide)]; show AV.int _ _ = AV.int _ _; congr 1; omega)
               | (rw [if_neg (by decide)]; rfl))
        | (refine ⟨hil, hfr, ⟨is', g8, ?_⟩, rfl, rfl, rfl, rfl, rfl, ?_, rfl, rfl, by show AV.int _ _ = AV.int _ _; congr 1, trivial⟩
           · rw [if_neg (by decide)] at hst; exact hst
           · first
               | (rw [if_pos (by decide)]; show AV.int _ _ = AV.int _ _; congr 1; omega)
               | (rw [if_neg (by decide)]; rfl))
  · have hin : i = nl.length := by omega
    subst hin
    rw [Ch] at gok ⊢
    repeat' (first
      | refine qS ?_ | refine qN ?_ | refine Bh (n := nl.length) rfl (Bm _) rfl rfl ?_ | refine Ds rfl rfl (by exact g7) rfl (by omega) (by omega) (by omega) rfl rfl ?_
      | refine Be ?_ (hr := by exact g2) | refine Ps (.islc t' f' s' (NL nl)) rfl (by exact g7) rfl (by exact he') (by exact Ax rfl) rfl rfl rfl ?_ | refine qQ ?_
      | refine Ac (fun _ => ?_) (fun _ => ?_))
    exact ⟨rfl, hfr, ⟨is', g8, gok⟩, rfl, rfl, rfl, rfl, rfl, rfl, rfl, rfl, trivial⟩
theorem Bkp {k n ix : Nat} {m is : List Nat} {es5 : List AV} {nd rc sc : List Bool} {v0 v2 v3 c0 c1 c2 c3 c4 c5 c6 c7 c9 : AV} {T : Tmps} {H : Heap} (hk : 1000000 ≤ k) (hm : m.length = 512) (hn : n < 100000) (hix : ix < 1000) (hb : ∀ a ∈ m, a < n)
    (he : es5[ix]? = some (.islc false false 1 (NL m))) (h2 : H 2 = ⟨1, false, .row 10 [.agg [c0, c1, c2, c3, c4, c5, c6, c7, .slc 5 1 es5.length 1 0 es5.length none, c9]]⟩) (h5 : H 5 = ⟨1, false, .row 1 es5⟩) (h8 : H 8 = ⟨1, false, .row 1 (NL is)⟩) (hok : IsOk n is nd rc sc)
    (hT : Has T [(0, v0), (2, v2), (3, v3), (4, .ptr 2 1 1 10 0 0), (5, .int .i64 (n : Nat)), (11, .int .i64 (bad3 nd rc sc n : Nat)), (19, .slc 8 1 n 1 0 n none), (21, .int .i64 (ix : Nat)), (24, .int .i64 0)]) :
    W (Br (CF k) noX 0 k (.loop Bcn) T H) (fun ex T' H' => ex = .exit 10 ∧ (∀ j, j ≠ 8 → H' j = H j) ∧ (∃ is', H' 8 = ⟨1, false, .row 1 (NL is')⟩ ∧ IsOk n is' nd rc (m.foldl aZ sc)) ∧ Has T' [(0, v0), (2, v2), (3, v3), (4, .ptr 2 1 1 10 0 0), (5, .int .i64 (n : Nat)), (11, .int .i64 (bad3 nd rc (m.foldl aZ sc) n : Nat)), (19, .slc 8 1 n 1 0 n none), (21, .int .i64 (ix : Nat))]) := by
  have hil5 : ix < es5.length := (Em.1 he).1
  have he' : es5[0 + (ix : Int).toNat]? = some (.islc false false 1 (NL m)) := by rw [show 0 + (ix : Int).toNat = ix by omega]; exact he
  refine Fj 512 (fun i T' H' => (∀ j, j ≠ 8 → H' j = H j) ∧ (∃ is', H' 8 = ⟨1, false, .row 1 (NL is')⟩ ∧ IsOk n is' nd rc ((m.take i).foldl aZ sc)) ∧ Has T' [(0, v0), (2, v2), (3, v3), (4, .ptr 2 1 1 10 0 0), (5, .int .i64 (n : Nat)), (11, .int .i64 (bad3 nd rc ((m.take i).foldl aZ sc) n : Nat)), (19, .slc 8 1 n 1 0 n none), (21, .int .i64 (ix : Nat)), (24, .int .i64 (i : Nat))]) ⟨fun _ _ => rfl, ⟨is, h8, hok⟩, hT⟩ (by omega) ?_
  rintro i T H2 hi ⟨hfr, ⟨is', g8, gok⟩, hT⟩
  have g2 := hfr 2 (by omega)
  rw [h2] at g2
  have g5 := hfr 5 (by omega)
  rw [h5] at g5
  rw [hT.eq]
  simp only [over]
  unfold Bcn
  by_cases hil : i < 512
  · obtain ⟨p, hp⟩ : ∃ p, p = m.getD i default := ⟨_, rfl⟩
    have hp2 : m.getD (i : Int).toNat default = p := by rw [Bd]; exact hp.symm
    have hpn : p < n := by rw [hp]; exact hb _ (by simp [hm, hil])
    rw [Mt _ _ (by omega), ← hp]
    have hl1 := gok.1
    have hsl := gok.2.2.2.1
    generalize (m.take i).foldl aZ sc = sc' at *
    have hix0 : 0 + (p : Int).toNat = p := by omega
    by_cases hp0 : p = 0
    · subst hp0
      rw [Blc]
      have hp0' : ((0 : Nat) : Int) = 0 := rfl
      repeat' (first
        | refine qS ?_ | refine Ds rfl rfl (by exact g5) rfl (by omega) (by omega) (by omega) rfl rfl ?_ | refine Be ?_ (hr := by exact g2)
        | refine Ps (.islc false false 1 (NL m)) rfl (by exact g5) rfl (by exact he') (by exact Ax rfl) rfl rfl rfl ?_
        | refine Ll (enc := nav) (l := m) 0 rfl rfl (by omega) (by omega) hp2 rfl rfl ?_ | refine qQ ?_ | refine Ac (fun _ => ?_) (fun _ => ?_))
      exact ⟨hil, hfr, ⟨is', g8, gok⟩, rfl, rfl, rfl, rfl, rfl, rfl, rfl, rfl, by show AV.int _ _ = AV.int _ _; congr 1, trivial⟩
    have hp0' : (p : Int) ≠ 0 := by omega
    have hst := gok.sector hpn hp0
    have hbm := Bix (nd := nd) (rc := rc) hpn hp0 hsl
    rw [hbm]
    repeat' (first
      | refine qS ?_ | refine Ds rfl rfl (by exact g5) rfl (by omega) (by omega) (by omega) rfl rfl ?_ | refine Be ?_ (hr := by exact g2)
      | refine Ps (.islc false false 1 (NL m)) rfl (by exact g5) rfl (by exact he') (by exact Ax rfl) rfl rfl rfl ?_
      | refine Ll (enc := nav) (l := m) p rfl rfl (by omega) (by omega) hp2 rfl rfl ?_ | refine qQ ?_ | refine Ac (fun _ => ?_) (fun _ => ?_))
    refine Beq [(0, v0), (2, v2), (3, v3), (4, .ptr 2 1 1 10 0 0), (5, .int .i64 (n : Nat)), (11, .int .i64 (bad3 nd rc sc' n : Nat)), (19, .slc 8 1 n 1 0 n none), (21, .int .i64 (ix : Nat)), (24, .int .i64 (i : Nat)), (25, .int .i64 (p : Nat)), (209, .slc 8 1 n 1 0 n none), (210, .int .i64 (p : Nat))] ⟨by kernel_rfl, by kernel_rfl, by kernel_rfl, by kernel_rfl, by kernel_rfl, by kernel_rfl, by kernel_rfl, by kernel_rfl, by kernel_rfl, by kernel_rfl, by kernel_rfl, by kernel_rfl, trivial⟩ (fun T hT => ?_)
    simp only [over]
    clear hT
    cases hx : nd.getD p default <;> cases hy : rc.getD p default <;> cases hz : sc'.getD p default
    all_goals
      have hbv2 := gok.2.2.2.2 p hpn
      rw [hx, hy, hz] at hbv2
      simp only [Bca, reduceIte, Ey, Cq, Nat.reduceAdd, Az] at hbv2
      have hbv := (Bo (fun q => is'.getD q default) hix0).trans hbv2
      rw [hbv2] at hst
      repeat' (first
        | refine qS ?_ | refine Ds rfl rfl (by exact g8) (by rw [Bm]; exact hl1) (by omega) (by omega) (by omega) rfl rfl ?_
        | refine Lt (enc := nav) (l := is') ?_ (hr := by exact g8) (hv0 := by exact hl1) (hv := by exact Bo nav hbv)
        | refine Ek (enc := nav) (l := is') (a := is'.getD p default + 4) ?_ (hr := by exact g8) (hv0 := by exact hl1) (hy := by rw [hbv2]; rfl) | refine qQ ?_
        | refine Ac (fun _ => ?_) (fun _ => ?_))
      first
        | (refine ⟨hil, (fun j hj => by rw [Df _ _ hj]; exact hfr j hj), ⟨is'.set p (is'.getD p default + 4), ?_, ?_⟩, rfl, rfl, rfl, rfl, rfl, ?_, rfl, rfl, by show AV.int _ _ = AV.int _ _; congr 1, trivial⟩
           · show (⟨1, false, .row 1 ((is'.set (0 + (p : Int).toNat) (is'.getD p default + 4)).map nav)⟩ : Blk) = _
             rw [hix0]; rfl
           · rw [if_pos (by decide), ← hbv2] at hst; exact hst
           · first
               | (rw [if_pos (by decide)]; show AV.int _ _ = AV.int _ _; congr 1; omega)
               | (rw [if_neg (by decide)]; rfl))
        | (refine ⟨hil, hfr, ⟨is', g8, ?_⟩, rfl, rfl, rfl, rfl, rfl, ?_, rfl, rfl, by show AV.int _ _ = AV.int _ _; congr 1, trivial⟩
           · rw [if_neg (by decide)] at hst; exact hst
           · first
               | (rw [if_pos (by decide)]; show AV.int _ _ = AV.int _ _; congr 1; omega)
               | (rw [if_neg (by decide)]; rfl))
  · have hin : i = 512 := by omega
    subst hin
    rw [Ai (by omega)] at gok ⊢
    repeat' (first | refine qQ ?_ | refine Ac (fun _ => ?_) (fun _ => ?_))
    exact ⟨rfl, hfr, ⟨is', g8, gok⟩, rfl, rfl, rfl, rfl, rfl, rfl, rfl, rfl, trivial⟩
end Go.Proofs.YtkaiiopoilpjeaaGreat
