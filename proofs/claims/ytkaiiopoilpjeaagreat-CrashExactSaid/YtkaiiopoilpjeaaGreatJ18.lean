import Derived.Test.YtkaiiopoilpjeaaGreatMJ3
set_option linter.unusedSimpArgs false
set_option linter.unusedVariables false
set_option maxRecDepth 10000
set_option maxHeartbeats 16000000
namespace Go.AI
section
variable {cf : Dk} {xf : ExtF} {base : Nat} {T : Tmps} {H : Heap} {QO : Tmps → Heap → Prop} {log : List FP} {g : Option (Nat × Bool)} {un : List Nat} {r : List SOper} {d : Nat} {t f : Bool}
theorem xE {site fn s : Nat} {fl : Bool} {xs : List SArg} {args : List AV} {Hc : Heap} (hF : cf fn 0 args Heap.none = some (.islc false fl s [], Hc)) (hw : Aj T g = some true) (ha : (xs.map (SArg.ev T)).map (fz false deep H) = args)
  (hl : Bn log ⟨(xs.map (SArg.ev T)).flatMap (vis deep H), [base + site], false⟩ un = true)
  (h : WO (aops cf xf base r (log ++ [⟨(xs.map (SArg.ev T)).flatMap (vis deep H), [base + site], false⟩]) (T.upd d (.islc false fl s [])) H) QO) :
  WO (aops cf xf base (⟨some d, .call (.fresh site) fn xs, g, un⟩ :: r) log T H) QO :=
 Bf (v := .islc false fl s []) (H' := H) (fp := ⟨(xs.map (SArg.ev T)).flatMap (vis deep H), [base + site], false⟩) hw (by
  simp only [aop, Hj, ha, hF, Ad, Ab, Qc, Pj]
  rfl) hl h
end
end Go.AI
namespace Go.Proofs.YtkaiiopoilpjeaaGreat
open Go.AI
theorem Aca (k : Nat) (hk : 0 < k) (t f : Bool) (s : Nat) : CF k Ci 0 [.islc t f s []] Heap.none = some (.islc false true 8 [], Heap.none) := by
 obtain ⟨k, rfl⟩ : ∃ m, k = m + 1 := ⟨k - 1, by omega⟩
 have hB : B Ci = none := rfl
 simp only [CF, Cp, hB]
 rfl
theorem Rec.nrs : ∀ l : List Rec, Ca (l.map Rec.av) = true
 | [] => rfl
 | a :: l => by simp only [Aw, Ca, Cl]; exact ⟨Rec.nr a, Rec.nrs l⟩
theorem Rec.fz (out : Bool) (n : Nat) (H : Heap) : ∀ l : List Rec, (l.map Rec.av).map (AI.fz out (n + 2) H) = l.map Rec.av := fun l => by
 rw [Ha]
 exact Bk fun ⟨_, _, _, _, _, _, _, _⟩ _ => rfl
attribute [local irreducible] aops Br Cp Dp aop W WO
theorem mT (k : Nat) (hk : 1000 < k) (t f : Bool) (s : Nat) (H : Heap) : ∃ u H', CF k Cs 6 [.islc t f s []] H = some (u, H') ∧ H' = H := by
 rcases Afs k hk t f s H with h | ⟨u, h⟩
 ·exact ⟨_, _, h, rfl⟩
 ·exact ⟨_, _, h, rfl⟩
theorem jH (k : Nat) (hk : 1000060 ≤ k) (recs : List Rec) (f1 : Bool) (s1 : Nat) (hs1 : s1 = 8 ∨ recs = []) (bl : List Nat) (f2 : Bool) (s2 : Nat) (hs2 : s2 = 1 ∨ bl = []) (n : Nat) (first : Rec) (wth : Bool) (free : List Nat) (f3 : Bool) (hrl : recs.length < 900) (hbl : bl.length = recs.length) (hn : n ≤ recs.length)
  (hro : ∀ r ∈ recs, r.ok) (hfo : wth = true → ({ first with next := 0 } : Rec).ok) (hb : ∀ a ∈ bl, 2 ≤ a ∧ a < 4096) (hf : ∀ a ∈ free, 2 ≤ a ∧ a < 4096) (hfl : free.length ≤ 4096) (hinc : zJ free) :
  FnV (CF k) Vy [.islc false f1 s1 (recs.map Rec.av), .islc false f2 s2 (NL bl), .int .i64 n, first.av, .bool wth, .islc false f3 1 (NL free)] (kH (Fy recs n first wth) free (bl.getD n default)) := by
 have hmay := yB (k - 1) (by omega) recs f1 s1 hs1 bl f2 s2 hs2 n first wth free f3 (by omega) hbl hn hro hfo hb hf hfl hinc
 have hlr : (recs.map Rec.av).length = recs.length := Ah _
 have hs1' : s1 = 8 ∨ recs.map Rec.av = [] := hs1.imp id fun h => by rw [h]; rfl
 have ho : ∀ r : Rec, r.ok → ({ r with next := 0 } : Rec).ok := fun r h => ⟨.inl rfl, h.2⟩
 have hano : ∀ r ∈ Fy recs n first wth, ({ r with next := 0 } : Rec).ok := by
  intro r hr
  unfold Fy at hr
  rcases Bi.1 hr with hr | hr
  ·exact ho r (hro r (Bs (Yh.1 hr)))
  ·cases wth with
   | false => simp at hr
   | true =>
    simp at hr
    subst hr
    exact hfo rfl
 have hpp : ptrOk (bl.getD n default) := by
  by_cases h : n < bl.length
  ·right
   rw [Af, Aa h]
   exact hb _ (Bw h)
  ·left
   rw [Af, Dt (by omega)]; rfl
 have hcI := fun m (h : m ≤ free.length) f => fW (k - 1) (by omega) false f (NL (free.drop m)) (Kf _) (fun n H => dN _ _ _ _) (by rw [Bm, Ba]; omega)
 obtain ⟨p0, hp0⟩ : ∃ p, p = bl.getD n default := ⟨_, rfl⟩
 have hpn : bl.getD (n : Int).toNat default = p0 := by rw [Bd]; exact hp0.symm
 rw [← hp0] at hpp ⊢
 obtain ⟨b1, b2, b3, b4, b5, b6, b7, b8⟩ := first
 have hav : Rec.av ⟨b1, b2, b3, b4, b5, b6, b7, b8⟩ = .agg [.int .i64 b1, .int .i64 b2, .int .i64 b3, .int .i64 b4, .int .i64 b5, .int .i64 b6, .int .i64 b7, .int .i64 b8] := rfl
 rw [hav] at hmay ⊢
 have hmx : max ((n : Int) - 1) 0 = ((n - 1 : Nat) : Int) := by omega
 refine fnk (by omega) lK rfl ?_
 unfold commit_Records
 by_cases hn1 : n ≤ 1
 ·have hn0 : n - 1 = 0 := by omega
  rw [hn0] at hmx
  cases wth with
  | false =>
   have han : Fy recs n ⟨b1, b2, b3, b4, b5, b6, b7, b8⟩ false = [] := by unfold Fy; rw [hn0]; rfl
   rw [han]
   repeat' (first
    | refine qS ?_ | refine Ae hmay ?_ | (refine q_mx ?_; rw [hmx])
    | refine Cr (n := recs.length) (a := 0) (b := 0) rfl hs1' hlr rfl (Ev rfl) (Ep _) (by omega) rfl rfl ?_
    | refine xE (Aca (k - 1) (by omega) _ _ _) rfl (by rfl) rfl ?_ | refine Er (mT (k - 1) (by omega) _ _ _ _) rfl rfl rfl ?_ | refine qQb ?_
    | refine Ac (fun _ => ?_) (fun _ => ?_) | refine Bl fun _ => ?_)
   rintro u H3 rfl
   unfold kH
   rw [if_neg (by simp)]
   simp only [Ec, Ez]
   by_cases hnb : n < bl.length
   ·obtain rfl : s2 = 1 := hs2.resolve_right (fun h => by rw [h] at hnb; simp at hnb)
    repeat' (first
     | refine qS ?_ | refine Bh (n := free.length) rfl (Bm _) rfl rfl ?_ | refine Bh (n := bl.length) rfl (Bm _) rfl rfl ?_ | refine Bh (n := 0) rfl rfl rfl rfl ?_
     | refine Ll (enc := nav) p0 rfl rfl (by omega) (by omega) hpn rfl rfl ?_ | refine qQb ?_ | refine Ac (fun _ => ?_) (fun _ => ?_) | refine Bl fun _ => ?_)
    refine Km (w_it (by omega) ?_)
    repeat' (first
     | refine qS ?_ | refine Bh (n := free.length) rfl (Bm _) rfl rfl ?_ | refine Bh (n := 0) rfl rfl rfl rfl ?_
     | refine Cr (n := free.length) (a := 0) (b := free.length) rfl (.inl rfl) (Bm _) (Aio rfl) rfl (Ep _) (Au _) rfl rfl ?_
     | refine Ae (hcI 0 (Ep _) _) ?_ rfl (by show [fz false 6 _ (AV.islc false (f3 && decide (free.length = free.length)) 1 (((NL free).drop 0).take (free.length - 0)))] = _; rw [Cb, Cb, Ai (by rw [Bm]; omega)]; rfl)
     | refine qQb ?_ | refine Ac (fun _ => ?_) (fun _ => ?_) | refine Bl fun _ => ?_)
    exact ⟨Or.inr rfl, .tup [.slc 1 1 0 3 0 0 none, .int .i64 p0, .islc false false 1 (NL (free.drop 0)), .int .i64 0], rfl, rfl⟩
   ·have hp00 : p0 = 0 := by rw [hp0, Af, Dt (by omega)]; rfl
    subst hp00
    repeat' (first
     | refine qS ?_ | refine Bh (n := free.length) rfl (Bm _) rfl rfl ?_ | refine Bh (n := bl.length) rfl (Bm _) rfl rfl ?_ | refine Bh (n := 0) rfl rfl rfl rfl ?_
     | refine qQb ?_ | refine Ac (fun _ => ?_) (fun _ => ?_) | refine Bl fun _ => ?_)
    refine Km (w_it (by omega) ?_)
    repeat' (first
     | refine qS ?_ | refine Bh (n := free.length) rfl (Bm _) rfl rfl ?_ | refine Bh (n := 0) rfl rfl rfl rfl ?_
     | refine Cr (n := free.length) (a := 0) (b := free.length) rfl (.inl rfl) (Bm _) (Aio rfl) rfl (Ep _) (Au _) rfl rfl ?_
     | refine Ae (hcI 0 (Ep _) _) ?_ rfl (by show [fz false 6 _ (AV.islc false (f3 && decide (free.length = free.length)) 1 (((NL free).drop 0).take (free.length - 0)))] = _; rw [Cb, Cb, Ai (by rw [Bm]; omega)]; rfl)
     | refine qQb ?_ | refine Ac (fun _ => ?_) (fun _ => ?_) | refine Bl fun _ => ?_)
    exact ⟨Or.inr rfl, .tup [.slc 1 1 0 3 0 0 none, .int .i64 0, .islc false false 1 (NL (free.drop 0)), .int .i64 0], rfl, rfl⟩
  | true =>
   have han : Fy recs n ⟨b1, b2, b3, b4, b5, b6, b7, b8⟩ true = [⟨b1, b2, b3, b4, b5, b6, b7, b8⟩] := by unfold Fy; rw [hn0]; rfl
   rw [han] at hano ⊢
   have hml : ([⟨b1, b2, b3, b4, b5, b6, b7, b8⟩] : List Rec).length = 1 := rfl
   repeat' (first
    | refine qS ?_ | refine Ae hmay ?_ | (refine q_mx ?_; rw [hmx])
    | refine Cr (n := recs.length) (a := 0) (b := 0) rfl hs1' hlr rfl (Ev rfl) (Ep _) (by omega) rfl rfl ?_
    | refine xE (Aca (k - 1) (by omega) _ _ _) rfl (by rfl) rfl ?_ | refine Er (mT (k - 1) (by omega) _ _ _ _) rfl rfl rfl ?_ | refine qQb ?_
    | refine Ac (fun _ => ?_) (fun _ => ?_) | refine Bl fun _ => ?_)
   rintro u H3 rfl
   unfold kH
   by_cases hsp : free.length < 1
   ·rw [if_pos (by rw [hml]; exact hsp)]
    repeat' (first
     | refine qS ?_ | refine Tm rfl rfl rfl rfl rfl rfl (fun _ => ?_) | refine Bh (n := free.length) rfl (Bm _) rfl rfl ?_ | refine Hw (len := 1) ?_ | refine qQb ?_
     | refine Ac (fun _ => ?_) (fun _ => ?_) | refine Bl fun _ => ?_)
    exact ⟨Or.inr rfl, .tup [.slc 8 1 0 3 0 0 none, .int .i64 0, .slc 9 1 0 1 0 0 none, .int .i64 9], rfl, rfl⟩
   rw [if_neg (by rw [hml]; exact hsp)]
   by_cases hnb : n < bl.length
   ·obtain rfl : s2 = 1 := hs2.resolve_right (fun h => by rw [h] at hnb; simp at hnb)
    repeat' (first
     | refine qS ?_ | refine Tm rfl rfl rfl rfl rfl rfl (fun _ => ?_) | refine Bh (n := free.length) rfl (Bm _) rfl rfl ?_
     | refine Bh (n := bl.length) rfl (Bm _) rfl rfl ?_ | refine Hw (len := 1) ?_ | refine Ll (enc := nav) p0 rfl rfl (by omega) (by omega) hpn rfl rfl ?_ | refine qQb ?_
     | refine Ac (fun _ => ?_) (fun _ => ?_) | refine Bl fun _ => ?_)
    refine W.mono (sR (k := k - 1) (anew := [⟨b1, b2, b3, b4, b5, b6, b7, b8⟩]) (free := free) (f3 := f3) (p0 := p0) (by omega) (by rw [hml]; omega) (by rw [hml]; omega) hfl hano hf hpp ?_ ?_ ?_) ?_
    ·rfl
    ·rfl
    ·rw [hml]
     exact ⟨rfl, rfl, rfl, rfl, rfl, rfl, rfl, trivial⟩
    rintro ex T2 H2 ⟨rfl, hcl, g1, hT2⟩
    rw [hml] at hT2 hcl
    rw [hT2.eq]
    simp only [over]
    show W _ _
    repeat' (first
     | refine qS ?_ | refine Hw (len := 1) ?_
     | refine Cr (n := free.length) (a := 1) (b := free.length) rfl (.inl rfl) (Bm _) (Ev rfl) rfl (by omega) (Au _) rfl rfl ?_
     | refine Ae (hcI 1 (by omega) _) ?_ rfl (by show [fz false 6 _ (AV.islc false (f3 && decide (free.length = free.length)) 1 (((NL free).drop 1).take (free.length - 1)))] = _; rw [Ai (by rw [Ba, Bm]; omega)]; simp only [NL, ← Fb]; rfl)
     | refine qQb ?_ | refine Ac (fun _ => ?_) (fun _ => ?_) | refine Bl fun _ => ?_)
    refine ⟨Or.inr rfl, .tup [.slc 1 1 1 3 0 1 none, .int .i64 (Ez [⟨b1, b2, b3, b4, b5, b6, b7, b8⟩] free p0), .islc false false 1 (NL (free.drop 1)), .int .i64 0], rfl, ?_⟩
    rw [hml]
    exact Bo (fun z => AV.tup [z, .int .i64 (Ez [⟨b1, b2, b3, b4, b5, b6, b7, b8⟩] free p0), .islc false false 1 (NL (free.drop 1)), .int .i64 0]) (Sp (out := true) g1 hcl (Tq _ _ _) 2)
   ·have hp00 : p0 = 0 := by rw [hp0, Af, Dt (by omega)]; rfl
    repeat' (first
     | refine qS ?_ | refine Tm rfl rfl rfl rfl rfl rfl (fun _ => ?_) | refine Bh (n := free.length) rfl (Bm _) rfl rfl ?_
     | refine Bh (n := bl.length) rfl (Bm _) rfl rfl ?_ | refine Hw (len := 1) ?_ | refine qQb ?_ | refine Ac (fun _ => ?_) (fun _ => ?_) | refine Bl fun _ => ?_)
    refine W.mono (sR (k := k - 1) (anew := [⟨b1, b2, b3, b4, b5, b6, b7, b8⟩]) (free := free) (f3 := f3) (p0 := p0) (by omega) (by rw [hml]; omega) (by rw [hml]; omega) hfl hano hf hpp ?_ ?_ ?_) ?_
    ·rfl
    ·rfl
    ·rw [hml]
     exact ⟨rfl, rfl, by rw [hp00]; rfl, rfl, rfl, rfl, rfl, trivial⟩
    rintro ex T2 H2 ⟨rfl, hcl, g1, hT2⟩
    rw [hml] at hT2 hcl
    rw [hT2.eq]
    simp only [over]
    show W _ _
    repeat' (first
     | refine qS ?_ | refine Hw (len := 1) ?_
     | refine Cr (n := free.length) (a := 1) (b := free.length) rfl (.inl rfl) (Bm _) (Ev rfl) rfl (by omega) (Au _) rfl rfl ?_
     | refine Ae (hcI 1 (by omega) _) ?_ rfl (by show [fz false 6 _ (AV.islc false (f3 && decide (free.length = free.length)) 1 (((NL free).drop 1).take (free.length - 1)))] = _; rw [Ai (by rw [Ba, Bm]; omega)]; simp only [NL, ← Fb]; rfl)
     | refine qQb ?_ | refine Ac (fun _ => ?_) (fun _ => ?_) | refine Bl fun _ => ?_)
    refine ⟨Or.inr rfl, .tup [.slc 1 1 1 3 0 1 none, .int .i64 (Ez [⟨b1, b2, b3, b4, b5, b6, b7, b8⟩] free p0), .islc false false 1 (NL (free.drop 1)), .int .i64 0], rfl, ?_⟩
    rw [hml]
    exact Bo (fun z => AV.tup [z, .int .i64 (Ez [⟨b1, b2, b3, b4, b5, b6, b7, b8⟩] free p0), .islc false false 1 (NL (free.drop 1)), .int .i64 0]) (Sp (out := true) g1 hcl (Tq _ _ _) 2)
 ·obtain ⟨q, hq⟩ : ∃ q, q = n - 1 := ⟨_, rfl⟩
  have hq0 : 0 < q := by omega
  rw [← hq] at hmx
  have htk : ((recs.map Rec.av).drop 0).take (q - 0) = (recs.take q).map Rec.av := by rw [Cb, tT, Ja]
  have hql : ((recs.take q).map Rec.av).length = q := by rw [Ah, Bc]; omega
  have hql2 : (recs.take q).length = q := by rw [Bc]; omega
  have hrvl : (recs.take q).reverse.length = q := by rw [Afa]; exact hql2
  have hcR := fun f => Apd (k - 1) (by omega) false f ((recs.take q).map Rec.av) (by intro h; have := Bo List.length h; rw [hql] at this; simp at this; omega) (Rec.nrs _) (fun H => Rec.fz _ 4 _ _) (by rw [hql]; omega)
  cases wth with
  | false =>
   have han : Fy recs n ⟨b1, b2, b3, b4, b5, b6, b7, b8⟩ false = (recs.take q).reverse := by unfold Fy; rw [← hq]; simp
   rw [han] at hano ⊢
   repeat' (first
    | refine qS ?_ | refine Ae hmay ?_ | (refine q_mx ?_; rw [hmx])
    | refine Cr (n := recs.length) (a := 0) (b := q) rfl hs1' hlr rfl (Ev rfl) (Ep _) (by omega) rfl rfl ?_
    | refine Wd (hcR _) hql rfl (by show [fz false 6 _ (AV.islc false (f1 && decide (q = recs.length)) 8 (((recs.map Rec.av).drop 0).take (q - 0)))] = _; rw [htk]; rfl) rfl ?_
    | refine Er (xO (k - 1) (by omega) (recs.take q) (by rw [hql2]; omega) _ rfl) (by show [AV.slc 5 1 q 8 0 q none] = _; rw [hql2]) rfl rfl ?_ | refine qQb ?_
    | refine Ac (fun _ => ?_) (fun _ => ?_) | refine Bl fun _ => ?_)
   rintro u H3 rfl
   unfold kH
   by_cases hsp : free.length < q
   ·rw [if_pos (by rw [hrvl]; exact hsp)]
    repeat' (first | refine qS ?_ | refine Bh (n := free.length) rfl (Bm _) rfl rfl ?_ | refine Hw (len := q) ?_ | refine qQb ?_ | refine Ac (fun _ => ?_) (fun _ => ?_) | refine Bl fun _ => ?_)
    exact ⟨Or.inr rfl, .tup [.slc 8 1 0 3 0 0 none, .int .i64 0, .slc 9 1 0 1 0 0 none, .int .i64 9], rfl, rfl⟩
   rw [if_neg (by rw [hrvl]; exact hsp)]
   by_cases hnb : n < bl.length
   ·obtain rfl : s2 = 1 := hs2.resolve_right (fun h => by rw [h] at hnb; simp at hnb)
    repeat' (first
     | refine qS ?_ | refine Bh (n := free.length) rfl (Bm _) rfl rfl ?_ | refine Bh (n := bl.length) rfl (Bm _) rfl rfl ?_ | refine Hw (len := q) ?_
     | refine Ll (enc := nav) p0 rfl rfl (by omega) (by omega) hpn rfl rfl ?_ | refine qQb ?_ | refine Ac (fun _ => ?_) (fun _ => ?_) | refine Bl fun _ => ?_)
    refine W.mono (Xa (k := k - 1) (anew := (recs.take q).reverse) (free := free) (f3 := f3) (p0 := p0) (by omega) (by rw [hrvl]; omega) (by rw [hrvl]; omega) hfl hano hf hpp ?_ ?_ ?_) ?_
    ·rfl
    ·rfl
    ·rw [hrvl]
     exact ⟨rfl, rfl, rfl, rfl, rfl, rfl, rfl, trivial⟩
    rintro ex T2 H2 ⟨rfl, hcl, g1, hT2⟩
    rw [hrvl] at hT2 hcl
    rw [hT2.eq]
    simp only [over]
    show W _ _
    repeat' (first
     | refine qS ?_ | refine Hw (len := q) ?_
     | refine Cr (n := free.length) (a := q) (b := free.length) rfl (.inl rfl) (Bm _) (Ev rfl) rfl (by omega) (Au _) rfl rfl ?_
     | refine Ae (hcI q (by omega) _) ?_ rfl (by show [fz false 6 _ (AV.islc false (f3 && decide (free.length = free.length)) 1 (((NL free).drop q).take (free.length - q)))] = _; rw [Ai (by rw [Ba, Bm]; omega)]; simp only [NL, ← Fb]; rfl)
     | refine qQb ?_ | refine Ac (fun _ => ?_) (fun _ => ?_) | refine Bl fun _ => ?_)
    refine ⟨Or.inr rfl, .tup [.slc 1 1 q 3 0 q none, .int .i64 (Ez (recs.take q).reverse free p0), .islc false false 1 (NL (free.drop q)), .int .i64 0], rfl, ?_⟩
    rw [hrvl]
    exact Bo (fun z => AV.tup [z, .int .i64 (Ez (recs.take q).reverse free p0), .islc false false 1 (NL (free.drop q)), .int .i64 0]) (Sp (out := true) g1 hcl (Tq _ _ _) 2)
   ·have hp00 : p0 = 0 := by rw [hp0, Af, Dt (by omega)]; rfl
    repeat' (first
     | refine qS ?_ | refine Bh (n := free.length) rfl (Bm _) rfl rfl ?_ | refine Bh (n := bl.length) rfl (Bm _) rfl rfl ?_ | refine Hw (len := q) ?_ | refine qQb ?_
     | refine Ac (fun _ => ?_) (fun _ => ?_) | refine Bl fun _ => ?_)
    refine W.mono (Xa (k := k - 1) (anew := (recs.take q).reverse) (free := free) (f3 := f3) (p0 := p0) (by omega) (by rw [hrvl]; omega) (by rw [hrvl]; omega) hfl hano hf hpp ?_ ?_ ?_) ?_
    ·rfl
    ·rfl
    ·rw [hrvl]
     exact ⟨rfl, rfl, by rw [hp00]; rfl, rfl, rfl, rfl, rfl, trivial⟩
    rintro ex T2 H2 ⟨rfl, hcl, g1, hT2⟩
    rw [hrvl] at hT2 hcl
    rw [hT2.eq]
    simp only [over]
    show W _ _
    repeat' (first
     | refine qS ?_ | refine Hw (len := q) ?_
     | refine Cr (n := free.length) (a := q) (b := free.length) rfl (.inl rfl) (Bm _) (Ev rfl) rfl (by omega) (Au _) rfl rfl ?_
     | refine Ae (hcI q (by omega) _) ?_ rfl (by show [fz false 6 _ (AV.islc false (f3 && decide (free.length = free.length)) 1 (((NL free).drop q).take (free.length - q)))] = _; rw [Ai (by rw [Ba, Bm]; omega)]; simp only [NL, ← Fb]; rfl)
     | refine qQb ?_ | refine Ac (fun _ => ?_) (fun _ => ?_) | refine Bl fun _ => ?_)
    refine ⟨Or.inr rfl, .tup [.slc 1 1 q 3 0 q none, .int .i64 (Ez (recs.take q).reverse free p0), .islc false false 1 (NL (free.drop q)), .int .i64 0], rfl, ?_⟩
    rw [hrvl]
    exact Bo (fun z => AV.tup [z, .int .i64 (Ez (recs.take q).reverse free p0), .islc false false 1 (NL (free.drop q)), .int .i64 0]) (Sp (out := true) g1 hcl (Tq _ _ _) 2)
  | true =>
   have han : Fy recs n ⟨b1, b2, b3, b4, b5, b6, b7, b8⟩ true = (recs.take q).reverse ++ [⟨b1, b2, b3, b4, b5, b6, b7, b8⟩] := by unfold Fy; rw [← hq]; rfl
   rw [han] at hano ⊢
   have hml : ((recs.take q).reverse ++ [⟨b1, b2, b3, b4, b5, b6, b7, b8⟩] : List Rec).length = q + 1 := by rw [An, hrvl]; rfl
   have hrvl2 : ((recs.take q).reverse.map Rec.av).length = q := by rw [Ah]; exact hrvl
   repeat' (first
    | refine qS ?_ | refine Ae hmay ?_ | (refine q_mx ?_; rw [hmx])
    | refine Cr (n := recs.length) (a := 0) (b := q) rfl hs1' hlr rfl (Ev rfl) (Ep _) (by omega) rfl rfl ?_
    | refine Wd (hcR _) hql rfl (by show [fz false 6 _ (AV.islc false (f1 && decide (q = recs.length)) 8 (((recs.map Rec.av).drop 0).take (q - 0)))] = _; rw [htk]; rfl) rfl ?_
    | refine Er (xO (k - 1) (by omega) (recs.take q) (by rw [hql2]; omega) _ rfl) (by show [AV.slc 5 1 q 8 0 q none] = _; rw [hql2]) rfl rfl ?_ | refine qQb ?_
    | refine Ac (fun _ => ?_) (fun _ => ?_) | refine Bl fun _ => ?_)
   rintro u H3 rfl
   unfold kH
   by_cases hsp : free.length < (q + 1)
   ·rw [if_pos (by rw [hml]; exact hsp)]
    repeat' (first
     | refine qS ?_ | refine Lm rfl rfl rfl (by rfl) hrvl2 rfl (by omega) rfl rfl (fun _ => ?_) | refine Bh (n := free.length) rfl (Bm _) rfl rfl ?_
     | refine Hw (len := (q + 1)) ?_ | refine qQb ?_ | refine Ac (fun _ => ?_) (fun _ => ?_) | refine Bl fun _ => ?_)
    exact ⟨Or.inr rfl, .tup [.slc 8 1 0 3 0 0 none, .int .i64 0, .slc 9 1 0 1 0 0 none, .int .i64 9], rfl, rfl⟩
   rw [if_neg (by rw [hml]; exact hsp)]
   by_cases hnb : n < bl.length
   ·obtain rfl : s2 = 1 := hs2.resolve_right (fun h => by rw [h] at hnb; simp at hnb)
    repeat' (first
     | refine qS ?_ | refine Lm rfl rfl rfl (by rfl) hrvl2 rfl (by omega) rfl rfl (fun _ => ?_) | refine Bh (n := free.length) rfl (Bm _) rfl rfl ?_
     | refine Bh (n := bl.length) rfl (Bm _) rfl rfl ?_ | refine Hw (len := (q + 1)) ?_ | refine Ll (enc := nav) p0 rfl rfl (by omega) (by omega) hpn rfl rfl ?_
     | refine qQb ?_ | refine Ac (fun _ => ?_) (fun _ => ?_) | refine Bl fun _ => ?_)
    refine W.mono (Xa (k := k - 1) (anew := ((recs.take q).reverse ++ [⟨b1, b2, b3, b4, b5, b6, b7, b8⟩])) (free := free) (f3 := f3) (p0 := p0) (by omega) (by rw [hml]; omega) (by rw [hml]; omega) hfl hano hf hpp ?_ ?_ ?_) ?_
    ·rw [Bq]; rfl
    ·rfl
    ·rw [hml]
     exact ⟨rfl, rfl, rfl, rfl, rfl, rfl, rfl, trivial⟩
    rintro ex T2 H2 ⟨rfl, hcl, g1, hT2⟩
    rw [hml] at hT2 hcl
    rw [hT2.eq]
    simp only [over]
    show W _ _
    repeat' (first
     | refine qS ?_ | refine Hw (len := (q + 1)) ?_
     | refine Cr (n := free.length) (a := (q + 1)) (b := free.length) rfl (.inl rfl) (Bm _) (Ev rfl) rfl (by omega) (Au _) rfl rfl ?_
     | refine Ae (hcI (q + 1) (by omega) _) ?_ rfl (by show [fz false 6 _ (AV.islc false (f3 && decide (free.length = free.length)) 1 (((NL free).drop (q + 1)).take (free.length - (q + 1))))] = _; rw [Ai (by rw [Ba, Bm]; omega)]; simp only [NL, ← Fb]; rfl)
     | refine qQb ?_ | refine Ac (fun _ => ?_) (fun _ => ?_) | refine Bl fun _ => ?_)
    refine ⟨Or.inr rfl, .tup [.slc 1 1 (q + 1) 3 0 (q + 1) none, .int .i64 (Ez ((recs.take q).reverse ++ [⟨b1, b2, b3, b4, b5, b6, b7, b8⟩]) free p0), .islc false false 1 (NL (free.drop (q + 1))), .int .i64 0], rfl, ?_⟩
    rw [hml]
    exact Bo (fun z => AV.tup [z, .int .i64 (Ez ((recs.take q).reverse ++ [⟨b1, b2, b3, b4, b5, b6, b7, b8⟩]) free p0), .islc false false 1 (NL (free.drop (q + 1))), .int .i64 0]) (Sp (out := true) g1 hcl (Tq _ _ _) 2)
   ·have hp00 : p0 = 0 := by rw [hp0, Af, Dt (by omega)]; rfl
    repeat' (first
     | refine qS ?_ | refine Lm rfl rfl rfl (by rfl) hrvl2 rfl (by omega) rfl rfl (fun _ => ?_) | refine Bh (n := free.length) rfl (Bm _) rfl rfl ?_
     | refine Bh (n := bl.length) rfl (Bm _) rfl rfl ?_ | refine Hw (len := (q + 1)) ?_ | refine qQb ?_ | refine Ac (fun _ => ?_) (fun _ => ?_) | refine Bl fun _ => ?_)
    refine W.mono (Xa (k := k - 1) (anew := ((recs.take q).reverse ++ [⟨b1, b2, b3, b4, b5, b6, b7, b8⟩])) (free := free) (f3 := f3) (p0 := p0) (by omega) (by rw [hml]; omega) (by rw [hml]; omega) hfl hano hf hpp ?_ ?_ ?_) ?_
    ·rw [Bq]; rfl
    ·rfl
    ·rw [hml]
     exact ⟨rfl, rfl, by rw [hp00]; rfl, rfl, rfl, rfl, rfl, trivial⟩
    rintro ex T2 H2 ⟨rfl, hcl, g1, hT2⟩
    rw [hml] at hT2 hcl
    rw [hT2.eq]
    simp only [over]
    show W _ _
    repeat' (first
     | refine qS ?_ | refine Hw (len := (q + 1)) ?_
     | refine Cr (n := free.length) (a := (q + 1)) (b := free.length) rfl (.inl rfl) (Bm _) (Ev rfl) rfl (by omega) (Au _) rfl rfl ?_
     | refine Ae (hcI (q + 1) (by omega) _) ?_ rfl (by show [fz false 6 _ (AV.islc false (f3 && decide (free.length = free.length)) 1 (((NL free).drop (q + 1)).take (free.length - (q + 1))))] = _; rw [Ai (by rw [Ba, Bm]; omega)]; simp only [NL, ← Fb]; rfl)
     | refine qQb ?_ | refine Ac (fun _ => ?_) (fun _ => ?_) | refine Bl fun _ => ?_)
    refine ⟨Or.inr rfl, .tup [.slc 1 1 (q + 1) 3 0 (q + 1) none, .int .i64 (Ez ((recs.take q).reverse ++ [⟨b1, b2, b3, b4, b5, b6, b7, b8⟩]) free p0), .islc false false 1 (NL (free.drop (q + 1))), .int .i64 0], rfl, ?_⟩
    rw [hml]
    exact Bo (fun z => AV.tup [z, .int .i64 (Ez ((recs.take q).reverse ++ [⟨b1, b2, b3, b4, b5, b6, b7, b8⟩]) free p0), .islc false false 1 (NL (free.drop (q + 1))), .int .i64 0]) (Sp (out := true) g1 hcl (Tq _ _ _) 2)
end Go.Proofs.YtkaiiopoilpjeaaGreat

