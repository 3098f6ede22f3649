import Derived.Test.YtkaiiopoilpjeaaMJ3
set_option linter.unusedSimpArgs false
set_option linter.unusedVariables false
set_option maxRecDepth 10000
set_option maxHeartbeats 16000000
namespace Go.AI
section
variable {cf : Cx} {xf : ExtF} {base : Nat} {T : Tmps} {H : Heap} {QO : Tmps → Heap → Prop} {log : List FP} {g : Option (Nat × Bool)} {un : List Nat} {r : List SOper} {d : Nat} {t f : Bool}
theorem mI {site fn s : Nat} {fl : Bool} {xs : List SArg} {args : List AV} {Hc : Heap} (hF : cf fn 0 args Heap.none = some (.islc false fl s [], Hc)) (hw : Af T g = some true) (ha : (xs.map (SArg.ev T)).map (fz false deep H) = args)
  (hl : Av log ⟨(xs.map (SArg.ev T)).flatMap (vis deep H), [base + site], false⟩ un = true)
  (h : WO (aops cf xf base r (log ++ [⟨(xs.map (SArg.ev T)).flatMap (vis deep H), [base + site], false⟩]) (T.upd d (.islc false fl s [])) H) QO) :
  WO (aops cf xf base (⟨some d, .call (.fresh site) fn xs, g, un⟩ :: r) log T H) QO :=
 Aq (v := .islc false fl s []) (H' := H) (fp := ⟨(xs.map (SArg.ev T)).flatMap (vis deep H), [base + site], false⟩) hw (by
  simp only [aop, Fu, ha, hF, Ac, Aa, Mk, Lr]
  rfl) hl h
end
end Go.AI
namespace Go.Proofs.Ytkaiiopoilpjeaa
open Go.AI
theorem sJ (k : Nat) (hk : 0 < k) (t f : Bool) (s : Nat) : CF k Bl 0 [.islc t f s []] Heap.none = some (.islc false true 8 [], Heap.none) := by
 obtain ⟨k, rfl⟩ : ∃ m, k = m + 1 := ⟨k - 1, by omega⟩
 have hB : B Bl = none := rfl
 simp only [CF, Cj, hB]
 rfl
theorem Rec.nrs : ∀ l : List Rec, Bq (l.map Rec.av) = true
 | [] => rfl
 | a :: l => by simp only [Bc, Bq, Bu]; exact ⟨Rec.nr a, Rec.nrs l⟩
theorem Rec.fz (out : Bool) (n : Nat) (H : Heap) : ∀ l : List Rec, (l.map Rec.av).map (AI.fz out (n + 2) H) = l.map Rec.av := fun l => by
 rw [Fh]
 exact Bn fun ⟨_, _, _, _, _, _, _, _⟩ _ => rfl
attribute [local irreducible] aops Bb Cj Dm aop W WO
theorem cQ (k : Nat) (hk : 1000 < k) (t f : Bool) (s : Nat) (H : Heap) : ∃ u H', CF k Cb 6 [.islc t f s []] H = some (u, H') ∧ H' = H := by
 rcases vC k hk t f s H with h | ⟨u, h⟩
 ·exact ⟨_, _, h, rfl⟩
 ·exact ⟨_, _, h, rfl⟩
theorem bL (k : Nat) (hk : 1000060 ≤ k) (recs : List Rec) (f1 : Bool) (s1 : Nat) (hs1 : s1 = 8 ∨ recs = []) (bl : List Nat) (f2 : Bool) (s2 : Nat) (hs2 : s2 = 1 ∨ bl = []) (n : Nat) (first : Rec) (wth : Bool) (free : List Nat) (f3 : Bool) (hrl : recs.length < 900) (hbl : bl.length = recs.length) (hn : n ≤ recs.length)
  (hro : ∀ r ∈ recs, r.ok) (hfo : wth = true → ({ first with next := 0 } : Rec).ok) (hb : ∀ a ∈ bl, 2 ≤ a ∧ a < 4096) (hf : ∀ a ∈ free, 2 ≤ a ∧ a < 4096) (hfl : free.length ≤ 4096) (hinc : oY free) :
  FnV (CF k) Qs [.islc false f1 s1 (recs.map Rec.av), .islc false f2 s2 (NL bl), .int .i64 n, first.av, .bool wth, .islc false f3 1 (NL free)] (aL (Em recs n first wth) free (bl.getD n default)) := by
 have hmay := nJ (k - 1) (by omega) recs f1 s1 hs1 bl f2 s2 hs2 n first wth free f3 (by omega) hbl hn hro hfo hb hf hfl hinc
 have hlr : (recs.map Rec.av).length = recs.length := Ak _
 have hs1' : s1 = 8 ∨ recs.map Rec.av = [] := hs1.imp id fun h => by rw [h]; rfl
 have ho : ∀ r : Rec, r.ok → ({ r with next := 0 } : Rec).ok := fun r h => ⟨.inl rfl, h.2⟩
 have hano : ∀ r ∈ Em recs n first wth, ({ r with next := 0 } : Rec).ok := by
  intro r hr
  unfold Em at hr
  rcases Bg.1 hr with hr | hr
  ·exact ho r (hro r (Hn (Ns.1 hr)))
  ·cases wth with
   | false => simp at hr
   | true =>
    simp at hr
    subst hr
    exact hfo rfl
 have hpp : ptrOk (bl.getD n default) := by
  by_cases h : n < bl.length
  ·right
   rw [Aw, Ai h]
   exact hb _ (Bz h)
  ·left
   rw [Aw, Hd (by omega)]; rfl
 have hcI := fun m (h : m ≤ free.length) f => Ads (k - 1) (by omega) false f (NL (free.drop m)) (Lb _) (fun n H => Afz _ _ _ _) (by rw [Be, Ea]; omega)
 obtain ⟨p0, hp0⟩ : ∃ p, p = bl.getD n default := ⟨_, rfl⟩
 have hpn : bl.getD (n : Int).toNat default = p0 := by rw [Bd]; exact hp0.symm
 rw [← hp0] at hpp ⊢
 obtain ⟨b1, b2, b3, b4, b5, b6, b7, b8⟩ := first
 have hav : Rec.av ⟨b1, b2, b3, b4, b5, b6, b7, b8⟩ = .agg [.int .i64 b1, .int .i64 b2, .int .i64 b3, .int .i64 b4, .int .i64 b5, .int .i64 b6, .int .i64 b7, .int .i64 b8] := rfl
 rw [hav] at hmay ⊢
 have hmx : max ((n : Int) - 1) 0 = ((n - 1 : Nat) : Int) := by omega
 refine fnk (by omega) aI rfl ?_
 unfold commit_Records
 by_cases hn1 : n ≤ 1
 ·have hn0 : n - 1 = 0 := by omega
  rw [hn0] at hmx
  cases wth with
  | false =>
   have han : Em recs n ⟨b1, b2, b3, b4, b5, b6, b7, b8⟩ false = [] := by unfold Em; rw [hn0]; rfl
   rw [han]
   repeat' (first
    | refine qS ?_ | refine Ad hmay ?_ | (refine q_mx ?_; rw [hmx])
    | refine Ff (n := recs.length) (a := 0) (b := 0) rfl hs1' hlr rfl (Kz rfl) (Eg _) (by omega) rfl rfl ?_
    | refine mI (sJ (k - 1) (by omega) _ _ _) rfl (by rfl) rfl ?_ | refine Og (cQ (k - 1) (by omega) _ _ _ _) rfl rfl rfl ?_ | refine qQb ?_
    | refine Ab (fun _ => ?_) (fun _ => ?_) | refine Ax fun _ => ?_)
   rintro u H3 rfl
   unfold aL
   rw [if_neg (by simp)]
   simp only [De, Ds]
   by_cases hnb : n < bl.length
   ·obtain rfl : s2 = 1 := hs2.resolve_right (fun h => by rw [h] at hnb; simp at hnb)
    repeat' (first
     | refine qS ?_ | refine Ba (n := free.length) rfl (Be _) rfl rfl ?_ | refine Ba (n := bl.length) rfl (Be _) rfl rfl ?_ | refine Ba (n := 0) rfl rfl rfl rfl ?_
     | refine Iu (enc := nav) p0 rfl rfl (by omega) (by omega) hpn rfl rfl ?_ | refine qQb ?_ | refine Ab (fun _ => ?_) (fun _ => ?_) | refine Ax fun _ => ?_)
    refine Ib (w_it (by omega) ?_)
    repeat' (first
     | refine qS ?_ | refine Ba (n := free.length) rfl (Be _) rfl rfl ?_ | refine Ba (n := 0) rfl rfl rfl rfl ?_
     | refine Ff (n := free.length) (a := 0) (b := free.length) rfl (.inl rfl) (Be _) (xA rfl) rfl (Eg _) (Ao _) rfl rfl ?_
     | refine Ad (hcI 0 (Eg _) _) ?_ rfl (by show [fz false 6 _ (AV.islc false (f3 && decide (free.length = free.length)) 1 (((NL free).drop 0).take (free.length - 0)))] = _; rw [Cc, Cc, Aj (by rw [Be]; omega)]; rfl)
     | refine qQb ?_ | refine Ab (fun _ => ?_) (fun _ => ?_) | refine Ax fun _ => ?_)
    exact ⟨Or.inr rfl, .tup [.slc 1 1 0 3 0 0 none, .int .i64 p0, .islc false false 1 (NL (free.drop 0)), .int .i64 0], rfl, rfl⟩
   ·have hp00 : p0 = 0 := by rw [hp0, Aw, Hd (by omega)]; rfl
    subst hp00
    repeat' (first
     | refine qS ?_ | refine Ba (n := free.length) rfl (Be _) rfl rfl ?_ | refine Ba (n := bl.length) rfl (Be _) rfl rfl ?_ | refine Ba (n := 0) rfl rfl rfl rfl ?_
     | refine qQb ?_ | refine Ab (fun _ => ?_) (fun _ => ?_) | refine Ax fun _ => ?_)
    refine Ib (w_it (by omega) ?_)
    repeat' (first
     | refine qS ?_ | refine Ba (n := free.length) rfl (Be _) rfl rfl ?_ | refine Ba (n := 0) rfl rfl rfl rfl ?_
     | refine Ff (n := free.length) (a := 0) (b := free.length) rfl (.inl rfl) (Be _) (xA rfl) rfl (Eg _) (Ao _) rfl rfl ?_
     | refine Ad (hcI 0 (Eg _) _) ?_ rfl (by show [fz false 6 _ (AV.islc false (f3 && decide (free.length = free.length)) 1 (((NL free).drop 0).take (free.length - 0)))] = _; rw [Cc, Cc, Aj (by rw [Be]; omega)]; rfl)
     | refine qQb ?_ | refine Ab (fun _ => ?_) (fun _ => ?_) | refine Ax fun _ => ?_)
    exact ⟨Or.inr rfl, .tup [.slc 1 1 0 3 0 0 none, .int .i64 0, .islc false false 1 (NL (free.drop 0)), .int .i64 0], rfl, rfl⟩
  | true =>
   have han : Em recs n ⟨b1, b2, b3, b4, b5, b6, b7, b8⟩ true = [⟨b1, b2, b3, b4, b5, b6, b7, b8⟩] := by unfold Em; rw [hn0]; rfl
   rw [han] at hano ⊢
   have hml : ([⟨b1, b2, b3, b4, b5, b6, b7, b8⟩] : List Rec).length = 1 := rfl
   repeat' (first
    | refine qS ?_ | refine Ad hmay ?_ | (refine q_mx ?_; rw [hmx])
    | refine Ff (n := recs.length) (a := 0) (b := 0) rfl hs1' hlr rfl (Kz rfl) (Eg _) (by omega) rfl rfl ?_
    | refine mI (sJ (k - 1) (by omega) _ _ _) rfl (by rfl) rfl ?_ | refine Og (cQ (k - 1) (by omega) _ _ _ _) rfl rfl rfl ?_ | refine qQb ?_
    | refine Ab (fun _ => ?_) (fun _ => ?_) | refine Ax fun _ => ?_)
   rintro u H3 rfl
   unfold aL
   by_cases hsp : free.length < 1
   ·rw [if_pos (by rw [hml]; exact hsp)]
    repeat' (first
     | refine qS ?_ | refine Pa rfl rfl rfl rfl rfl rfl (fun _ => ?_) | refine Ba (n := free.length) rfl (Be _) rfl rfl ?_ | refine Hk (len := 1) ?_ | refine qQb ?_
     | refine Ab (fun _ => ?_) (fun _ => ?_) | refine Ax fun _ => ?_)
    exact ⟨Or.inr rfl, .tup [.slc 8 1 0 3 0 0 none, .int .i64 0, .slc 9 1 0 1 0 0 none, .int .i64 9], rfl, rfl⟩
   rw [if_neg (by rw [hml]; exact hsp)]
   by_cases hnb : n < bl.length
   ·obtain rfl : s2 = 1 := hs2.resolve_right (fun h => by rw [h] at hnb; simp at hnb)
    repeat' (first
     | refine qS ?_ | refine Pa rfl rfl rfl rfl rfl rfl (fun _ => ?_) | refine Ba (n := free.length) rfl (Be _) rfl rfl ?_
     | refine Ba (n := bl.length) rfl (Be _) rfl rfl ?_ | refine Hk (len := 1) ?_ | refine Iu (enc := nav) p0 rfl rfl (by omega) (by omega) hpn rfl rfl ?_ | refine qQb ?_
     | refine Ab (fun _ => ?_) (fun _ => ?_) | refine Ax fun _ => ?_)
    refine W.mono (eG (k := k - 1) (anew := [⟨b1, b2, b3, b4, b5, b6, b7, b8⟩]) (free := free) (f3 := f3) (p0 := p0) (by omega) (by rw [hml]; omega) (by rw [hml]; omega) hfl hano hf hpp ?_ ?_ ?_) ?_
    ·rfl
    ·rfl
    ·rw [hml]
     exact ⟨rfl, rfl, rfl, rfl, rfl, rfl, rfl, trivial⟩
    rintro ex T2 H2 ⟨rfl, hcl, g1, hT2⟩
    rw [hml] at hT2 hcl
    rw [hT2.eq]
    simp only [over]
    show W _ _
    repeat' (first
     | refine qS ?_ | refine Hk (len := 1) ?_
     | refine Ff (n := free.length) (a := 1) (b := free.length) rfl (.inl rfl) (Be _) (Kz rfl) rfl (by omega) (Ao _) rfl rfl ?_
     | refine Ad (hcI 1 (by omega) _) ?_ rfl (by show [fz false 6 _ (AV.islc false (f3 && decide (free.length = free.length)) 1 (((NL free).drop 1).take (free.length - 1)))] = _; rw [Aj (by rw [Ea, Be]; omega)]; simp only [NL, ← Ih]; rfl)
     | refine qQb ?_ | refine Ab (fun _ => ?_) (fun _ => ?_) | refine Ax fun _ => ?_)
    refine ⟨Or.inr rfl, .tup [.slc 1 1 1 3 0 1 none, .int .i64 (Ds [⟨b1, b2, b3, b4, b5, b6, b7, b8⟩] free p0), .islc false false 1 (NL (free.drop 1)), .int .i64 0], rfl, ?_⟩
    rw [hml]
    exact Ay (fun z => AV.tup [z, .int .i64 (Ds [⟨b1, b2, b3, b4, b5, b6, b7, b8⟩] free p0), .islc false false 1 (NL (free.drop 1)), .int .i64 0]) (Sc (out := true) g1 hcl (Ox _ _ _) 2)
   ·have hp00 : p0 = 0 := by rw [hp0, Aw, Hd (by omega)]; rfl
    repeat' (first
     | refine qS ?_ | refine Pa rfl rfl rfl rfl rfl rfl (fun _ => ?_) | refine Ba (n := free.length) rfl (Be _) rfl rfl ?_
     | refine Ba (n := bl.length) rfl (Be _) rfl rfl ?_ | refine Hk (len := 1) ?_ | refine qQb ?_ | refine Ab (fun _ => ?_) (fun _ => ?_) | refine Ax fun _ => ?_)
    refine W.mono (eG (k := k - 1) (anew := [⟨b1, b2, b3, b4, b5, b6, b7, b8⟩]) (free := free) (f3 := f3) (p0 := p0) (by omega) (by rw [hml]; omega) (by rw [hml]; omega) hfl hano hf hpp ?_ ?_ ?_) ?_
    ·rfl
    ·rfl
    ·rw [hml]
     exact ⟨rfl, rfl, by rw [hp00]; rfl, rfl, rfl, rfl, rfl, trivial⟩
    rintro ex T2 H2 ⟨rfl, hcl, g1, hT2⟩
    rw [hml] at hT2 hcl
    rw [hT2.eq]
    simp only [over]
    show W _ _
    repeat' (first
     | refine qS ?_ | refine Hk (len := 1) ?_
     | refine Ff (n := free.length) (a := 1) (b := free.length) rfl (.inl rfl) (Be _) (Kz rfl) rfl (by omega) (Ao _) rfl rfl ?_
     | refine Ad (hcI 1 (by omega) _) ?_ rfl (by show [fz false 6 _ (AV.islc false (f3 && decide (free.length = free.length)) 1 (((NL free).drop 1).take (free.length - 1)))] = _; rw [Aj (by rw [Ea, Be]; omega)]; simp only [NL, ← Ih]; rfl)
     | refine qQb ?_ | refine Ab (fun _ => ?_) (fun _ => ?_) | refine Ax fun _ => ?_)
    refine ⟨Or.inr rfl, .tup [.slc 1 1 1 3 0 1 none, .int .i64 (Ds [⟨b1, b2, b3, b4, b5, b6, b7, b8⟩] free p0), .islc false false 1 (NL (free.drop 1)), .int .i64 0], rfl, ?_⟩
    rw [hml]
    exact Ay (fun z => AV.tup [z, .int .i64 (Ds [⟨b1, b2, b3, b4, b5, b6, b7, b8⟩] free p0), .islc false false 1 (NL (free.drop 1)), .int .i64 0]) (Sc (out := true) g1 hcl (Ox _ _ _) 2)
 ·obtain ⟨q, hq⟩ : ∃ q, q = n - 1 := ⟨_, rfl⟩
  have hq0 : 0 < q := by omega
  rw [← hq] at hmx
  have htk : ((recs.map Rec.av).drop 0).take (q - 0) = (recs.take q).map Rec.av := by rw [Cc, Nat.sub_zero, bZ]
  have hql : ((recs.take q).map Rec.av).length = q := by rw [Ak, Cf]; omega
  have hql2 : (recs.take q).length = q := by rw [Cf]; omega
  have hrvl : (recs.take q).reverse.length = q := by rw [sX]; exact hql2
  have hcR := fun f => Ack (k - 1) (by omega) false f ((recs.take q).map Rec.av) (by intro h; have := Ay List.length h; rw [hql] at this; simp at this; omega) (Rec.nrs _) (fun H => Rec.fz _ 4 _ _) (by rw [hql]; omega)
  cases wth with
  | false =>
   have han : Em recs n ⟨b1, b2, b3, b4, b5, b6, b7, b8⟩ false = (recs.take q).reverse := by unfold Em; rw [← hq]; simp
   rw [han] at hano ⊢
   repeat' (first
    | refine qS ?_ | refine Ad hmay ?_ | (refine q_mx ?_; rw [hmx])
    | refine Ff (n := recs.length) (a := 0) (b := q) rfl hs1' hlr rfl (Kz rfl) (Eg _) (by omega) rfl rfl ?_
    | refine aB (hcR _) hql rfl (by show [fz false 6 _ (AV.islc false (f1 && decide (q = recs.length)) 8 (((recs.map Rec.av).drop 0).take (q - 0)))] = _; rw [htk]; rfl) rfl ?_
    | refine Og (lH (k - 1) (by omega) (recs.take q) (by rw [hql2]; omega) _ rfl) (by show [AV.slc 5 1 q 8 0 q none] = _; rw [hql2]) rfl rfl ?_ | refine qQb ?_
    | refine Ab (fun _ => ?_) (fun _ => ?_) | refine Ax fun _ => ?_)
   rintro u H3 rfl
   unfold aL
   by_cases hsp : free.length < q
   ·rw [if_pos (by rw [hrvl]; exact hsp)]
    repeat' (first | refine qS ?_ | refine Ba (n := free.length) rfl (Be _) rfl rfl ?_ | refine Hk (len := q) ?_ | refine qQb ?_ | refine Ab (fun _ => ?_) (fun _ => ?_) | refine Ax fun _ => ?_)
    exact ⟨Or.inr rfl, .tup [.slc 8 1 0 3 0 0 none, .int .i64 0, .slc 9 1 0 1 0 0 none, .int .i64 9], rfl, rfl⟩
   rw [if_neg (by rw [hrvl]; exact hsp)]
   by_cases hnb : n < bl.length
   ·obtain rfl : s2 = 1 := hs2.resolve_right (fun h => by rw [h] at hnb; simp at hnb)
    repeat' (first
     | refine qS ?_ | refine Ba (n := free.length) rfl (Be _) rfl rfl ?_ | refine Ba (n := bl.length) rfl (Be _) rfl rfl ?_ | refine Hk (len := q) ?_
     | refine Iu (enc := nav) p0 rfl rfl (by omega) (by omega) hpn rfl rfl ?_ | refine qQb ?_ | refine Ab (fun _ => ?_) (fun _ => ?_) | refine Ax fun _ => ?_)
    refine W.mono (Sg (k := k - 1) (anew := (recs.take q).reverse) (free := free) (f3 := f3) (p0 := p0) (by omega) (by rw [hrvl]; omega) (by rw [hrvl]; omega) hfl hano hf hpp ?_ ?_ ?_) ?_
    ·rfl
    ·rfl
    ·rw [hrvl]
     exact ⟨rfl, rfl, rfl, rfl, rfl, rfl, rfl, trivial⟩
    rintro ex T2 H2 ⟨rfl, hcl, g1, hT2⟩
    rw [hrvl] at hT2 hcl
    rw [hT2.eq]
    simp only [over]
    show W _ _
    repeat' (first
     | refine qS ?_ | refine Hk (len := q) ?_
     | refine Ff (n := free.length) (a := q) (b := free.length) rfl (.inl rfl) (Be _) (Kz rfl) rfl (by omega) (Ao _) rfl rfl ?_
     | refine Ad (hcI q (by omega) _) ?_ rfl (by show [fz false 6 _ (AV.islc false (f3 && decide (free.length = free.length)) 1 (((NL free).drop q).take (free.length - q)))] = _; rw [Aj (by rw [Ea, Be]; omega)]; simp only [NL, ← Ih]; rfl)
     | refine qQb ?_ | refine Ab (fun _ => ?_) (fun _ => ?_) | refine Ax fun _ => ?_)
    refine ⟨Or.inr rfl, .tup [.slc 1 1 q 3 0 q none, .int .i64 (Ds (recs.take q).reverse free p0), .islc false false 1 (NL (free.drop q)), .int .i64 0], rfl, ?_⟩
    rw [hrvl]
    exact Ay (fun z => AV.tup [z, .int .i64 (Ds (recs.take q).reverse free p0), .islc false false 1 (NL (free.drop q)), .int .i64 0]) (Sc (out := true) g1 hcl (Ox _ _ _) 2)
   ·have hp00 : p0 = 0 := by rw [hp0, Aw, Hd (by omega)]; rfl
    repeat' (first
     | refine qS ?_ | refine Ba (n := free.length) rfl (Be _) rfl rfl ?_ | refine Ba (n := bl.length) rfl (Be _) rfl rfl ?_ | refine Hk (len := q) ?_ | refine qQb ?_
     | refine Ab (fun _ => ?_) (fun _ => ?_) | refine Ax fun _ => ?_)
    refine W.mono (Sg (k := k - 1) (anew := (recs.take q).reverse) (free := free) (f3 := f3) (p0 := p0) (by omega) (by rw [hrvl]; omega) (by rw [hrvl]; omega) hfl hano hf hpp ?_ ?_ ?_) ?_
    ·rfl
    ·rfl
    ·rw [hrvl]
     exact ⟨rfl, rfl, by rw [hp00]; rfl, rfl, rfl, rfl, rfl, trivial⟩
    rintro ex T2 H2 ⟨rfl, hcl, g1, hT2⟩
    rw [hrvl] at hT2 hcl
    rw [hT2.eq]
    simp only [over]
    show W _ _
    repeat' (first
     | refine qS ?_ | refine Hk (len := q) ?_
     | refine Ff (n := free.length) (a := q) (b := free.length) rfl (.inl rfl) (Be _) (Kz rfl) rfl (by omega) (Ao _) rfl rfl ?_
     | refine Ad (hcI q (by omega) _) ?_ rfl (by show [fz false 6 _ (AV.islc false (f3 && decide (free.length = free.length)) 1 (((NL free).drop q).take (free.length - q)))] = _; rw [Aj (by rw [Ea, Be]; omega)]; simp only [NL, ← Ih]; rfl)
     | refine qQb ?_ | refine Ab (fun _ => ?_) (fun _ => ?_) | refine Ax fun _ => ?_)
    refine ⟨Or.inr rfl, .tup [.slc 1 1 q 3 0 q none, .int .i64 (Ds (recs.take q).reverse free p0), .islc false false 1 (NL (free.drop q)), .int .i64 0], rfl, ?_⟩
    rw [hrvl]
    exact Ay (fun z => AV.tup [z, .int .i64 (Ds (recs.take q).reverse free p0), .islc false false 1 (NL (free.drop q)), .int .i64 0]) (Sc (out := true) g1 hcl (Ox _ _ _) 2)
  | true =>
   have han : Em recs n ⟨b1, b2, b3, b4, b5, b6, b7, b8⟩ true = (recs.take q).reverse ++ [⟨b1, b2, b3, b4, b5, b6, b7, b8⟩] := by unfold Em; rw [← hq]; rfl
   rw [han] at hano ⊢
   have hml : ((recs.take q).reverse ++ [⟨b1, b2, b3, b4, b5, b6, b7, b8⟩] : List Rec).length = q + 1 := by rw [Ar, hrvl]; rfl
   have hrvl2 : ((recs.take q).reverse.map Rec.av).length = q := by rw [Ak]; exact hrvl
   repeat' (first
    | refine qS ?_ | refine Ad hmay ?_ | (refine q_mx ?_; rw [hmx])
    | refine Ff (n := recs.length) (a := 0) (b := q) rfl hs1' hlr rfl (Kz rfl) (Eg _) (by omega) rfl rfl ?_
    | refine aB (hcR _) hql rfl (by show [fz false 6 _ (AV.islc false (f1 && decide (q = recs.length)) 8 (((recs.map Rec.av).drop 0).take (q - 0)))] = _; rw [htk]; rfl) rfl ?_
    | refine Og (lH (k - 1) (by omega) (recs.take q) (by rw [hql2]; omega) _ rfl) (by show [AV.slc 5 1 q 8 0 q none] = _; rw [hql2]) rfl rfl ?_ | refine qQb ?_
    | refine Ab (fun _ => ?_) (fun _ => ?_) | refine Ax fun _ => ?_)
   rintro u H3 rfl
   unfold aL
   by_cases hsp : free.length < (q + 1)
   ·rw [if_pos (by rw [hml]; exact hsp)]
    repeat' (first
     | refine qS ?_ | refine It rfl rfl rfl (by rfl) hrvl2 rfl (by omega) rfl rfl (fun _ => ?_) | refine Ba (n := free.length) rfl (Be _) rfl rfl ?_
     | refine Hk (len := (q + 1)) ?_ | refine qQb ?_ | refine Ab (fun _ => ?_) (fun _ => ?_) | refine Ax fun _ => ?_)
    exact ⟨Or.inr rfl, .tup [.slc 8 1 0 3 0 0 none, .int .i64 0, .slc 9 1 0 1 0 0 none, .int .i64 9], rfl, rfl⟩
   rw [if_neg (by rw [hml]; exact hsp)]
   by_cases hnb : n < bl.length
   ·obtain rfl : s2 = 1 := hs2.resolve_right (fun h => by rw [h] at hnb; simp at hnb)
    repeat' (first
     | refine qS ?_ | refine It rfl rfl rfl (by rfl) hrvl2 rfl (by omega) rfl rfl (fun _ => ?_) | refine Ba (n := free.length) rfl (Be _) rfl rfl ?_
     | refine Ba (n := bl.length) rfl (Be _) rfl rfl ?_ | refine Hk (len := (q + 1)) ?_ | refine Iu (enc := nav) p0 rfl rfl (by omega) (by omega) hpn rfl rfl ?_
     | refine qQb ?_ | refine Ab (fun _ => ?_) (fun _ => ?_) | refine Ax fun _ => ?_)
    refine W.mono (Sg (k := k - 1) (anew := ((recs.take q).reverse ++ [⟨b1, b2, b3, b4, b5, b6, b7, b8⟩])) (free := free) (f3 := f3) (p0 := p0) (by omega) (by rw [hml]; omega) (by rw [hml]; omega) hfl hano hf hpp ?_ ?_ ?_) ?_
    ·rw [Br]; rfl
    ·rfl
    ·rw [hml]
     exact ⟨rfl, rfl, rfl, rfl, rfl, rfl, rfl, trivial⟩
    rintro ex T2 H2 ⟨rfl, hcl, g1, hT2⟩
    rw [hml] at hT2 hcl
    rw [hT2.eq]
    simp only [over]
    show W _ _
    repeat' (first
     | refine qS ?_ | refine Hk (len := (q + 1)) ?_
     | refine Ff (n := free.length) (a := (q + 1)) (b := free.length) rfl (.inl rfl) (Be _) (Kz rfl) rfl (by omega) (Ao _) rfl rfl ?_
     | refine Ad (hcI (q + 1) (by omega) _) ?_ rfl (by show [fz false 6 _ (AV.islc false (f3 && decide (free.length = free.length)) 1 (((NL free).drop (q + 1)).take (free.length - (q + 1))))] = _; rw [Aj (by rw [Ea, Be]; omega)]; simp only [NL, ← Ih]; rfl)
     | refine qQb ?_ | refine Ab (fun _ => ?_) (fun _ => ?_) | refine Ax fun _ => ?_)
    refine ⟨Or.inr rfl, .tup [.slc 1 1 (q + 1) 3 0 (q + 1) none, .int .i64 (Ds ((recs.take q).reverse ++ [⟨b1, b2, b3, b4, b5, b6, b7, b8⟩]) free p0), .islc false false 1 (NL (free.drop (q + 1))), .int .i64 0], rfl, ?_⟩
    rw [hml]
    exact Ay (fun z => AV.tup [z, .int .i64 (Ds ((recs.take q).reverse ++ [⟨b1, b2, b3, b4, b5, b6, b7, b8⟩]) free p0), .islc false false 1 (NL (free.drop (q + 1))), .int .i64 0]) (Sc (out := true) g1 hcl (Ox _ _ _) 2)
   ·have hp00 : p0 = 0 := by rw [hp0, Aw, Hd (by omega)]; rfl
    repeat' (first
     | refine qS ?_ | refine It rfl rfl rfl (by rfl) hrvl2 rfl (by omega) rfl rfl (fun _ => ?_) | refine Ba (n := free.length) rfl (Be _) rfl rfl ?_
     | refine Ba (n := bl.length) rfl (Be _) rfl rfl ?_ | refine Hk (len := (q + 1)) ?_ | refine qQb ?_ | refine Ab (fun _ => ?_) (fun _ => ?_) | refine Ax fun _ => ?_)
    refine W.mono (Sg (k := k - 1) (anew := ((recs.take q).reverse ++ [⟨b1, b2, b3, b4, b5, b6, b7, b8⟩])) (free := free) (f3 := f3) (p0 := p0) (by omega) (by rw [hml]; omega) (by rw [hml]; omega) hfl hano hf hpp ?_ ?_ ?_) ?_
    ·rw [Br]; rfl
    ·rfl
    ·rw [hml]
     exact ⟨rfl, rfl, by rw [hp00]; rfl, rfl, rfl, rfl, rfl, trivial⟩
    rintro ex T2 H2 ⟨rfl, hcl, g1, hT2⟩
    rw [hml] at hT2 hcl
    rw [hT2.eq]
    simp only [over]
    show W _ _
    repeat' (first
     | refine qS ?_ | refine Hk (len := (q + 1)) ?_
     | refine Ff (n := free.length) (a := (q + 1)) (b := free.length) rfl (.inl rfl) (Be _) (Kz rfl) rfl (by omega) (Ao _) rfl rfl ?_
     | refine Ad (hcI (q + 1) (by omega) _) ?_ rfl (by show [fz false 6 _ (AV.islc false (f3 && decide (free.length = free.length)) 1 (((NL free).drop (q + 1)).take (free.length - (q + 1))))] = _; rw [Aj (by rw [Ea, Be]; omega)]; simp only [NL, ← Ih]; rfl)
     | refine qQb ?_ | refine Ab (fun _ => ?_) (fun _ => ?_) | refine Ax fun _ => ?_)
    refine ⟨Or.inr rfl, .tup [.slc 1 1 (q + 1) 3 0 (q + 1) none, .int .i64 (Ds ((recs.take q).reverse ++ [⟨b1, b2, b3, b4, b5, b6, b7, b8⟩]) free p0), .islc false false 1 (NL (free.drop (q + 1))), .int .i64 0], rfl, ?_⟩
    rw [hml]
    exact Ay (fun z => AV.tup [z, .int .i64 (Ds ((recs.take q).reverse ++ [⟨b1, b2, b3, b4, b5, b6, b7, b8⟩]) free p0), .islc false false 1 (NL (free.drop (q + 1))), .int .i64 0]) (Sc (out := true) g1 hcl (Ox _ _ _) 2)
end Go.Proofs.Ytkaiiopoilpjeaa

