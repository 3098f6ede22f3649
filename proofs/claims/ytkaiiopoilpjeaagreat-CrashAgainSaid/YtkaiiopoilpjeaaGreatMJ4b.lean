/- Lemmas. -/
import Derived.Test.YtkaiiopoilpjeaaGreatMJ4
set_option linter.unusedSimpArgs false
set_option linter.unusedVariables false
set_option maxRecDepth 10000
set_option maxHeartbeats 16000000
namespace Go.Proofs.YtkaiiopoilpjeaaGreat
open Go.AI
theorem Ail (recs : List Rec) (id : Int) : -1 ≤ Kx recs id ∧ Kx recs id < recs.length ∨ recs = [] := by
 by_cases h : recs = []
 ·exact .inr h
 ·left
  have h1 := vD (fun r : Rec => decide ((r.id : Int) = id ∧ r.kind = 0)) recs 0
  have h2 := Acw (fun r : Rec => decide ((r.id : Int) = id ∧ r.kind = 0)) recs 0
  have hl : 0 < recs.length := Ey.2 h
  refine ⟨h1.1, ?_⟩
  by_cases h3 : Kx recs id ≥ 0
  ·obtain ⟨j, hj1, hj2⟩ := h2 h3
   unfold Kx
   rw [hj2]; omega
  ·omega
theorem Ako {recs : List Rec} {id : Int} (h : ¬ Kx recs id < 0) : 0 ≤ Kx recs id ∧ Kx recs id < recs.length := by
 rcases Ail recs id with h1 | h1
 ·omega
 ·subst h1
  exact absurd (by show idxL _ [] 0 < 0; rw [Aun]; decide) h
attribute [local irreducible] aops Bo Cn Dh aop W WO
def Aes (recs : List Rec) (id : Int) : AV := if ¬ idOk id then .tup [.int .i64 0, .int .i64 1] else if Kx recs id < 0 then .tup [.int .i64 0, .int .i64 11] else .tup [.int .i64 (Kx recs id), .int .i64 0]
theorem Awm (k : Nat) (hk : 1000030 ≤ k) (f : Bool) (s : Nat) (recs : List Rec) (g b r z fi slot : Nat) (id : Int) (hs : s = 8 ∨ recs = []) (hl : recs.length < 1000000) : FnV (CF k) rI [.agg [.int .i64 g, .int .i64 b, .int .i64 r, .int .i64 z, .int .i64 fi, .int .i64 slot, .islc false f s (recs.map Rec.av)], .int .i64 id] (Aes recs id) := by
 have hi := Bas (k - 1) (by omega) id
 have hf := Awt (k - 1) (by omega) false f s recs (.int .i64 g) (.int .i64 b) (.int .i64 r) (.int .i64 z) (.int .i64 fi) (.int .i64 slot) id hs hl rfl
 refine fnk (by omega) Ajl rfl ?_
 unfold oX Aes
 by_cases h1 : idOk id
 ·rw [if_pos h1] at hi
  rw [if_neg (fun hh => hh h1)]
  by_cases h2 : Kx recs id < 0
  ·rw [if_pos h2] at hf ⊢
   repeat' (first | refine Am (hi) (fun _ => ?_) (fun _ => ?_) | refine Aa (hi) ?_ | refine Am (hf) (fun _ => ?_) (fun _ => ?_) | refine Aa (hf) ?_ | refine qQb ?_ | refine Ac (fun _ => ?_) (fun _ => ?_))
   exact ⟨Or.inr rfl, _, rfl, rfl⟩
  ·rw [if_neg h2] at hf ⊢
   repeat' (first | refine Am (hi) (fun _ => ?_) (fun _ => ?_) | refine Aa (hi) ?_ | refine Am (hf) (fun _ => ?_) (fun _ => ?_) | refine Aa (hf) ?_ | refine qQb ?_ | refine Ac (fun _ => ?_) (fun _ => ?_))
   exact ⟨Or.inr rfl, _, rfl, rfl⟩
 ·rw [if_neg h1] at hi
  rw [if_pos h1]
  repeat' (first | refine Am (hi) (fun _ => ?_) (fun _ => ?_) | refine Aa (hi) ?_ | refine qQb ?_ | refine Ac (fun _ => ?_) (fun _ => ?_))
  exact ⟨Or.inr rfl, _, rfl, rfl⟩
theorem Awg (k : Nat) (hk : 1000200 ≤ k) (f : Bool) (l : List UInt8) (hl : l.length < 1000000) (id : Int) : FnV (CF k) Xr [.islc false f 1 (BL l), .int .i64 id] (Ma (fR l id)) := by
 have hlk := Uj (k - 1) (by omega) f l hl
 refine fnk (by omega) Aad rfl ?_
 unfold dD fR
 cases h : Ff l with
 | error p =>
  obtain ⟨a, e⟩ := p
  have he := Gr h
  rw [h] at hlk
  unfold Nb at hlk
  simp only at hlk ⊢
  have he0 : (e : Int) ≠ 0 := by omega
  repeat' (first | refine qS ?_ | refine qN ?_ | refine Am (hlk) (fun _ => ?_) (fun _ => ?_) | refine Aa (hlk) ?_ | refine qQb ?_ | refine Ac (fun _ => ?_) (fun _ => ?_))
  exact ⟨Or.inr rfl, _, rfl, rfl⟩
 | ok x =>
  rw [h] at hlk
  obtain ⟨hd, hx⟩ := Qx hl h
  have hfew := hx.few
  obtain ⟨f1, s1, hr, hs1⟩ := rIvF x.recs
  obtain ⟨f2, s2, hb, hs2⟩ := Iq x.blocks
  unfold Nb at hlk
  simp only at hlk ⊢
  have hfd := Awm (k - 1) (by omega) f1 s1 x.recs x.sup.gen x.sup.blocks x.sup.root x.sup.size x.sup.first x.slot id hs1 (by omega)
  have hpd := Abu (k - 1) (by omega) false f1 s1 x.recs (.int .i64 x.sup.gen) (.int .i64 x.sup.blocks) (.int .i64 x.sup.root) (.int .i64 x.sup.size) (.int .i64 x.sup.first) (.int .i64 x.slot) hs1
  unfold Aes at hfd
  by_cases h1 : idOk id
  rotate_left 1
  ·rw [if_pos h1] at hfd ⊢
   unfold Img.cs at hlk
   rw [hr, hb] at hlk
   obtain ⟨⟨g, b, r, z, fi⟩, slot, recs, blocks, trees⟩ := x
   simp only at hlk hfd
   repeat' (first
    | refine qS ?_ | refine qN ?_ | refine De ?_ | refine Am (hlk) (fun _ => ?_) (fun _ => ?_) | refine Aa (hlk) ?_ | refine Am (hfd) (fun _ => ?_) (fun _ => ?_)
    | refine Aa (hfd) ?_ | refine qQb ?_ | refine Ac (fun _ => ?_) (fun _ => ?_))
   exact ⟨Or.inr rfl, _, rfl, rfl⟩
  rw [if_neg (fun hh => hh h1)] at hfd ⊢
  by_cases h2 : Kx x.recs id < 0
  ·rw [if_pos h2] at hfd ⊢
   unfold Img.cs at hlk
   rw [hr, hb] at hlk
   obtain ⟨⟨g, b, r, z, fi⟩, slot, recs, blocks, trees⟩ := x
   simp only at hlk hfd
   repeat' (first
    | refine qS ?_ | refine qN ?_ | refine De ?_ | refine Am (hlk) (fun _ => ?_) (fun _ => ?_) | refine Aa (hlk) ?_ | refine Am (hfd) (fun _ => ?_) (fun _ => ?_)
    | refine Aa (hfd) ?_ | refine qQb ?_ | refine Ac (fun _ => ?_) (fun _ => ?_))
   exact ⟨Or.inr rfl, _, rfl, rfl⟩
  rw [if_neg h2] at hfd ⊢
  have hfl := Ako h2
  obtain ⟨q, hq⟩ : ∃ q : Nat, q = (Kx x.recs id).toNat := ⟨_, rfl⟩
  have hqi : Kx x.recs id = q := by omega
  rw [hqi] at hfd
  rw [← hq]
  have hmk := Aog (k - 1) (by omega) f l hd x hx (q + 1) rec0 false (by omega) (fun h => by cases h)
  obtain ⟨uf, us, ues, ue, hut⟩ := Mu (Mz l x (q + 1) rec0 false)
  have hmk' : FnV (CF (k - 1)) aY [.islc false f 1 (BL l), .iptr false (x.cs false f l), .int .i64 ((q : Int) + 1), .agg [.int .i64 0, .int .i64 0, .int .i64 0, .int .i64 0, .int .i64 0, .int .i64 0, .int .i64 0, .int .i64 0], .bool false] (.tup [.islc false uf us ues, .int .i64 ue]) := by rw [← hut]; exact hmk
  unfold Img.cs at hlk hmk'
  rw [hr, hb] at hlk hmk'
  cases hpp : sE x.recs with
  | none =>
   rw [hpp] at hpd
   have hpd' : FnV (CF (k - 1)) Rd _ (.tup [.agg [.int .i64 0, .int .i64 0, .int .i64 0, .int .i64 0, .int .i64 0, .int .i64 0, .int .i64 0, .int .i64 0], .bool false]) := hpd
   rw [if_neg (by show ¬ (false = true); decide), hut]
   obtain ⟨⟨g, b, r, z, fi⟩, slot, recs, blocks, trees⟩ := x
   simp only at hlk hfd hpd' hmk'
   repeat' (first
    | refine qS ?_ | refine qN ?_ | refine De ?_ | refine Am (hlk) (fun _ => ?_) (fun _ => ?_) | refine Aa (hlk) ?_ | refine Am (hfd) (fun _ => ?_) (fun _ => ?_)
    | refine Aa (hfd) ?_ | refine Am (hpd') (fun _ => ?_) (fun _ => ?_) | refine Aa (hpd') ?_ | refine Am (hmk') (fun _ => ?_) (fun _ => ?_) | refine Aa (hmk') ?_
    | refine qQb ?_ | refine Ac (fun _ => ?_) (fun _ => ?_))
   exact ⟨Or.inr rfl, _, rfl, rfl⟩
  | some pr =>
   rw [hpp] at hpd
   obtain ⟨c1, c2, c3, c4, c5, c6, c7, c8⟩ := pr
   have hpd' : FnV (CF (k - 1)) Rd _ (.tup [.agg [.int .i64 c1, .int .i64 c2, .int .i64 c3, .int .i64 c4, .int .i64 c5, .int .i64 c6, .int .i64 c7, .int .i64 c8], .bool true]) := hpd
   simp only
   by_cases h3 : (c3 : Int) = id
   ·rw [if_pos (Aq h3)]
    obtain ⟨⟨g, b, r, z, fi⟩, slot, recs, blocks, trees⟩ := x
    simp only at hlk hfd hpd'
    repeat' (first
     | refine qS ?_ | refine qN ?_ | refine De ?_ | refine Am (hlk) (fun _ => ?_) (fun _ => ?_) | refine Aa (hlk) ?_ | refine Am (hfd) (fun _ => ?_) (fun _ => ?_)
     | refine Aa (hfd) ?_ | refine Am (hpd') (fun _ => ?_) (fun _ => ?_) | refine Aa (hpd') ?_ | refine qQb ?_ | refine Ac (fun _ => ?_) (fun _ => ?_))
    exact ⟨Or.inr rfl, _, rfl, rfl⟩
   ·rw [if_neg (by rw [Ay h3]; decide), hut]
    obtain ⟨⟨g, b, r, z, fi⟩, slot, recs, blocks, trees⟩ := x
    simp only at hlk hfd hpd' hmk'
    repeat' (first
     | refine qS ?_ | refine qN ?_ | refine De ?_ | refine Am (hlk) (fun _ => ?_) (fun _ => ?_) | refine Aa (hlk) ?_ | refine Am (hfd) (fun _ => ?_) (fun _ => ?_)
     | refine Aa (hfd) ?_ | refine Am (hpd') (fun _ => ?_) (fun _ => ?_) | refine Aa (hpd') ?_ | refine Am (hmk') (fun _ => ?_) (fun _ => ?_) | refine Aa (hmk') ?_
     | refine qQb ?_ | refine Ac (fun _ => ?_) (fun _ => ?_))
    exact ⟨Or.inr rfl, _, rfl, rfl⟩
theorem wZ (k : Nat) (hk : 1000200 ≤ k) (f : Bool) (l : List UInt8) (hl : l.length < 1000000) (id : Int) : FnV (CF k) Tx [.islc false f 1 (BL l), .int .i64 id] (Afe (Ti l id)) := by
 have hlk := Uj (k - 1) (by omega) f l hl
 refine fnk (by omega) sL rfl ?_
 unfold Xu Ti
 cases h : Ff l with
 | error p =>
  obtain ⟨a, e⟩ := p
  have he := Gr h
  rw [h] at hlk
  unfold Nb at hlk
  simp only at hlk ⊢
  have he0 : (e : Int) ≠ 0 := by omega
  repeat' (first | refine Am (hlk) (fun _ => ?_) (fun _ => ?_) | refine Aa (hlk) ?_ | refine qQb ?_ | refine Ac (fun _ => ?_) (fun _ => ?_))
  exact ⟨Or.inr rfl, _, rfl, rfl⟩
 | ok x =>
  rw [h] at hlk
  obtain ⟨hd, hx⟩ := Qx hl h
  have hfew := hx.few
  obtain ⟨f1, s1, hr, hs1⟩ := rIvF x.recs
  obtain ⟨f2, s2, hb, hs2⟩ := Iq x.blocks
  unfold Nb at hlk
  simp only at hlk ⊢
  have hfd := Awm (k - 1) (by omega) f1 s1 x.recs x.sup.gen x.sup.blocks x.sup.root x.sup.size x.sup.first x.slot id hs1 (by omega)
  unfold Aes at hfd
  by_cases h1 : idOk id
  rotate_left 1
  ·rw [if_pos h1] at hfd ⊢
   unfold Img.cs at hlk
   rw [hr, hb] at hlk
   obtain ⟨⟨g, b, r, z, fi⟩, slot, recs, blocks, trees⟩ := x
   simp only at hlk hfd
   repeat' (first
    | refine qS ?_ | refine De ?_ | refine Am (hlk) (fun _ => ?_) (fun _ => ?_) | refine Aa (hlk) ?_ | refine Am (hfd) (fun _ => ?_) (fun _ => ?_)
    | refine Aa (hfd) ?_ | refine qQb ?_ | refine Ac (fun _ => ?_) (fun _ => ?_))
   exact ⟨Or.inr rfl, _, rfl, rfl⟩
  rw [if_neg (fun hh => hh h1)] at hfd ⊢
  by_cases h2 : Kx x.recs id < 0
  ·rw [if_pos h2] at hfd ⊢
   unfold Img.cs at hlk
   rw [hr, hb] at hlk
   obtain ⟨⟨g, b, r, z, fi⟩, slot, recs, blocks, trees⟩ := x
   simp only at hlk hfd
   repeat' (first
    | refine qS ?_ | refine De ?_ | refine Am (hlk) (fun _ => ?_) (fun _ => ?_) | refine Aa (hlk) ?_ | refine Am (hfd) (fun _ => ?_) (fun _ => ?_)
    | refine Aa (hfd) ?_ | refine qQb ?_ | refine Ac (fun _ => ?_) (fun _ => ?_))
   exact ⟨Or.inr rfl, _, rfl, rfl⟩
  rw [if_neg h2] at hfd ⊢
  have hfl := Ako h2
  obtain ⟨q, hq⟩ : ∃ q : Nat, q = (Kx x.recs id).toNat := ⟨_, rfl⟩
  have hqi : Kx x.recs id = q := by omega
  rw [hqi] at hfd
  rw [← hq]
  have hql : q < x.recs.length := by omega
  have hs8 : s1 = 8 := hs1.resolve_right (fun h => by rw [h] at hql; simp at hql)
  subst hs8
  obtain ⟨⟨c1, c2, c3, c4, c5, c6, c7, c8⟩, hcr⟩ : ∃ r, r = x.recs.getD q default := ⟨_, rfl⟩
  have hri : x.recs[q] = ⟨c1, c2, c3, c4, c5, c6, c7, c8⟩ := by rw [hcr]; simp [hql]
  have hmem : (⟨c1, c2, c3, c4, c5, c6, c7, c8⟩ : Rec) ∈ x.recs := by rw [← hri]; exact Bs hql
  have hea : (x.recs.map Rec.av)[(q : Int).toNat]? = some (.agg [.int .i64 c1, .int .i64 c2, .int .i64 c3, .int .i64 c4, .int .i64 c5, .int .i64 c6, .int .i64 c7, .int .i64 c8]) := by
   rw [As, Az, Ab hql, hri]; rfl
  have hrok := hx.recs _ hmem
  have hrlt := hx.roots c4 (Bu _ (Cm.2 ⟨_, hmem, rfl⟩))
  have hsok := hx.sup
  have hblk := hx.blocks
  have hst := Vf (k - 1) (by omega) x.sup x.slot f1 8 (x.recs.map Rec.av) [] false true 0 c4 c5 x.sup.first hx.sup hx.slot (.inr rfl) (by decide) (fun _ h => by cases h) (fun hg => by
   refine ⟨⟨by show 1 ≤ x.sup.gen + 1; omega, by show x.sup.gen + 1 ≤ _; omega⟩, hsok.2.1, hrok.2.2.2.1, ?_, hsok.2.2.2.2⟩
   show c4 = 0 ∨ 2 ≤ c4 ∧ c4 < x.sup.blocks
   rw [hblk]
   rcases hrok.2.1 with h | h
   ·exact .inl h
   ·exact .inr ⟨h.1, hrlt⟩)
  have hlm : (x.recs.map Rec.av).length = x.recs.length := Ag _
  rw [← hcr]
  unfold Afe
  simp only
  unfold Img.cs at hlk
  rw [hr, hb] at hlk
  obtain ⟨⟨g, b, r, z, fi⟩, slot, recs, blocks, trees⟩ := x
  simp only at hlk hfd hst hea ⊢
  by_cases hg : g < 1099511627776
  ·rw [if_pos hg] at hst ⊢
   repeat' (first
    | refine qS ?_ | refine De ?_ | refine Ce rfl rfl (by omega) hea rfl rfl ?_ | refine Am (hlk) (fun _ => ?_) (fun _ => ?_) | refine Aa (hlk) ?_
    | refine Am (hfd) (fun _ => ?_) (fun _ => ?_) | refine Aa (hfd) ?_ | refine Am (hst) (fun _ => ?_) (fun _ => ?_) | refine Aa (hst) ?_ | refine qQb ?_
    | refine Ac (fun _ => ?_) (fun _ => ?_))
   exact ⟨Or.inr rfl, _, rfl, rfl⟩
  ·rw [if_neg hg] at hst ⊢
   repeat' (first
    | refine qS ?_ | refine De ?_ | refine Ce rfl rfl (by omega) hea rfl rfl ?_ | refine Am (hlk) (fun _ => ?_) (fun _ => ?_) | refine Aa (hlk) ?_
    | refine Am (hfd) (fun _ => ?_) (fun _ => ?_) | refine Aa (hfd) ?_ | refine Am (hst) (fun _ => ?_) (fun _ => ?_) | refine Aa (hst) ?_ | refine qQb ?_
    | refine Ac (fun _ => ?_) (fun _ => ?_))
   exact ⟨Or.inr rfl, _, rfl, rfl⟩
def Agn : Except (Nat × Nat) Img → AV
 | .ok x => .tup [.islc false false 1 (NL (idsP x.recs)), .int .i64 0]
 | .error (_, e) => .tup [.islc false false 1 [], .int .i64 e]
theorem Aua (recs : List Rec) : (idsP recs).length ≤ recs.length := by
 unfold idsP
 rw [Ag]
 exact Ev _ _
theorem Aqn {k : Nat} {recs : List Rec} {f' : Bool} {s' : Nat} {T : Tmps} {H : Heap} (hk : 1000000 ≤ k) (hs : s' = 8 ∨ recs = []) (hl : recs.length < 1000) (h2 : H 2 = ⟨1, false, .row 1 []⟩)
  (hT : Has T [(7, .slc 2 1 0 1 0 0 none), (23, .islc false f' s' (recs.map Rec.av)), (24, .int .i64 recs.length), (25, .int .i64 0)]) :
  W (Bo (CF k) noX 0 k (.loop mO) T H) (fun ex T' H' => ex = .exit 0 ∧ H' 2 = ⟨1, false, .row 1 (NL (idsP recs))⟩ ∧ T' 7 = .slc 2 1 (idsP recs).length 1 0 (idsP recs).length none) := by
 refine Fc recs.length (fun i T' H' => H' 2 = ⟨1, false, .row 1 (NL (idsP (recs.take i)))⟩ ∧ Has T' [(7, .slc 2 1 (idsP (recs.take i)).length 1 0 (idsP (recs.take i)).length none), (23, .islc false f' s' (recs.map Rec.av)), (24, .int .i64 recs.length), (25, .int .i64 (i : Nat))]) ⟨h2, hT⟩ (by omega) ?_
 rintro i T H hi ⟨g2, hT⟩
 rw [hT.eq]
 simp only [over]
 unfold mO
 by_cases hil : i < recs.length
 ·obtain rfl : s' = 8 := hs.resolve_right (fun h => by rw [h] at hil; simp at hil)
  obtain ⟨⟨b1, b2, b3, b4, b5, b6, b7, b8⟩, hr⟩ : ∃ r, r = recs[i] := ⟨_, rfl⟩
  have he2 : (recs.map Rec.av)[(i : Int).toNat]? = some (.agg [.int .i64 b1, .int .i64 b2, .int .i64 b3, .int .i64 b4, .int .i64 b5, .int .i64 b6, .int .i64 b7, .int .i64 b8]) := by
   rw [As, Az, Ab hil, ← hr]; rfl
  have hql := Aua (recs.take i)
  rw [Ba] at hql
  have hst : idsP (recs.take (i + 1)) = idsP (recs.take i) ++ (if b6 = 0 then [b2] else []) := by
   unfold idsP
   rw [Ax hil, ← hr, Kj, Bn]
   congr 1
   simp only [Ej, List.filter_nil, Ls, Ei]
   by_cases h : b6 = 0
   ·rw [if_pos h, if_pos h]; rfl
   ·rw [if_neg h, if_neg h]; rfl
  obtain ⟨q, hq⟩ : ∃ q, q = idsP (recs.take i) := ⟨_, rfl⟩
  rw [← hq] at g2 hql hst ⊢
  by_cases h0 : b6 = 0
  ·rw [if_pos h0] at hst
   have h0' : (b6 : Int) = 0 := by omega
   repeat' (first
    | refine qS ?_ | refine Ce rfl rfl (by omega) he2 rfl rfl ?_ | refine Kw rfl rfl rfl (by exact g2) (Bm q) rfl (by omega) rfl rfl (fun _ => ?_) | refine qQb ?_
    | refine Ac (fun _ => ?_) (fun _ => ?_) | refine Bh fun _ => ?_)
   refine ⟨hil, ?_, ?_, rfl, rfl, by show AV.int _ _ = AV.int _ _; congr 1, trivial⟩
   ·rw [hst, fP]; rfl
   ·rw [hst, An]; rfl
  ·rw [if_neg h0, Bw] at hst
   have h0' : (b6 : Int) ≠ 0 := by omega
   repeat' (first | refine qS ?_ | refine Ce rfl rfl (by omega) he2 rfl rfl ?_ | refine qQb ?_ | refine Ac (fun _ => ?_) (fun _ => ?_) | refine Bh fun _ => ?_)
   exact ⟨hil, by rw [hst]; exact g2, by rw [hst]; rfl, rfl, rfl, by show AV.int _ _ = AV.int _ _; congr 1, trivial⟩
 ·have hin : i = recs.length := by omega
  subst hin
  rw [Ca] at g2 ⊢
  repeat' (first | refine qQb ?_ | refine Ac (fun _ => ?_) (fun _ => ?_) | refine Bh fun _ => ?_)
  exact ⟨rfl, g2, rfl⟩
theorem Bbb (k : Nat) (hk : 1000200 ≤ k) (f : Bool) (l : List UInt8) (hl : l.length < 1000000) : FnV (CF k) eM [.islc false f 1 (BL l)] (Agn (Ff l)) := by
 have hlk := Uj (k - 1) (by omega) f l hl
 refine fnk (by omega) Ahu rfl ?_
 unfold snap_List
 cases h : Ff l with
 | error p =>
  obtain ⟨a, e⟩ := p
  have he := Gr h
  rw [h] at hlk
  unfold Nb at hlk
  unfold Agn
  simp only at hlk ⊢
  have he0 : (e : Int) ≠ 0 := by omega
  repeat' (first | refine Am (hlk) (fun _ => ?_) (fun _ => ?_) | refine Aa (hlk) ?_ | refine qQb ?_ | refine Ac (fun _ => ?_) (fun _ => ?_) | refine Bh fun _ => ?_)
  exact ⟨Or.inr rfl, .tup [.slc 1 1 0 1 0 0 none, .int .i64 e], rfl, rfl⟩
 | ok x =>
  rw [h] at hlk
  obtain ⟨hd, hx⟩ := Qx hl h
  have hfew := hx.few
  obtain ⟨f1, s1, hr, hs1⟩ := rIvF x.recs
  obtain ⟨f2, s2, hb, hs2⟩ := Iq x.blocks
  unfold Nb at hlk
  unfold Agn
  simp only at hlk ⊢
  have hlr : (x.recs.map Rec.av).length = x.recs.length := Ag _
  unfold Img.cs at hlk
  rw [hr, hb] at hlk
  repeat' (first
   | refine qS ?_ | refine De ?_ | refine Ak (n := x.recs.length) rfl hlr rfl rfl ?_ | refine Am (hlk) (fun _ => ?_) (fun _ => ?_) | refine Aa (hlk) ?_ | refine qQb ?_
   | refine Ac (fun _ => ?_) (fun _ => ?_) | refine Bh fun _ => ?_)
  refine W.mono (Aqn (k := k - 1) (recs := x.recs) (f' := f1) (s' := s1) (by omega) hs1 (by omega) ?_ ?_) ?_
  ·rfl
  ·exact ⟨rfl, rfl, rfl, rfl, trivial⟩
  rintro ex T2 H2 ⟨rfl, g2, h7⟩
  rw [Has.eq (T := T2) (ps := [(7, _)]) ⟨h7, trivial⟩]
  simp only [over]
  show W _ _
  repeat' (first | refine qQb ?_ | refine Ac (fun _ => ?_) (fun _ => ?_) | refine Bh fun _ => ?_)
  exact ⟨Or.inr rfl, .tup [.slc 2 1 (idsP x.recs).length 1 0 (idsP x.recs).length none, .int .i64 0], rfl, Bp (fun z => AV.tup [z, .int .i64 0]) (Fz (out := true) g2 rfl 3)⟩
end Go.Proofs.YtkaiiopoilpjeaaGreat
