/- Lemmas. -/
import Derived.Test.YtkaiiopoilpjeaaMJ4
set_option linter.unusedSimpArgs false
set_option linter.unusedVariables false
set_option maxRecDepth 10000
set_option maxHeartbeats 16000000
namespace Go.Proofs.Ytkaiiopoilpjeaa
open Go.AI
theorem rI (recs : List Rec) (id : Int) : -1 ≤ He recs id ∧ He recs id < recs.length ∨ recs = [] := by
 by_cases h : recs = []
 ·exact .inr h
 ·left
  have h1 := gE (fun r : Rec => decide ((r.id : Int) = id ∧ r.kind = 0)) recs 0
  have h2 := mK (fun r : Rec => decide ((r.id : Int) = id ∧ r.kind = 0)) recs 0
  have hl : 0 < recs.length := Fp.2 h
  refine ⟨h1.1, ?_⟩
  by_cases h3 : He recs id ≥ 0
  ·obtain ⟨j, hj1, hj2⟩ := h2 h3
   unfold He
   rw [hj2]; omega
  ·omega
theorem pW {recs : List Rec} {id : Int} (h : ¬ He recs id < 0) : 0 ≤ He recs id ∧ He recs id < recs.length := by
 rcases rI recs id with h1 | h1
 ·omega
 ·subst h1
  exact absurd (by show idxL _ [] 0 < 0; rw [Ace]; decide) h
attribute [local irreducible] aops Bb Cj Dm aop W WO
def nG (recs : List Rec) (id : Int) : AV := if ¬ idOk id then .tup [.int .i64 0, .int .i64 1] else if He recs id < 0 then .tup [.int .i64 0, .int .i64 11] else .tup [.int .i64 (He recs id), .int .i64 0]
theorem Aaw (k : Nat) (hk : 1000030 ≤ k) (f : Bool) (s : Nat) (recs : List Rec) (g b r z fi slot : Nat) (id : Int) (hs : s = 8 ∨ recs = []) (hl : recs.length < 1000000) : FnV (CF k) dE [.agg [.int .i64 g, .int .i64 b, .int .i64 r, .int .i64 z, .int .i64 fi, .int .i64 slot, .islc false f s (recs.map Rec.av)], .int .i64 id] (nG recs id) := by
 have hi := Afw (k - 1) (by omega) id
 have hf := Agx (k - 1) (by omega) false f s recs (.int .i64 g) (.int .i64 b) (.int .i64 r) (.int .i64 z) (.int .i64 fi) (.int .i64 slot) id hs hl rfl
 refine fnk (by omega) qP rfl ?_
 unfold aF nG
 by_cases h1 : idOk id
 ·rw [if_pos h1] at hi
  rw [if_neg (fun hh => hh h1)]
  by_cases h2 : He recs id < 0
  ·rw [if_pos h2] at hf ⊢
   repeat' (first | refine Ag (hi) (fun _ => ?_) (fun _ => ?_) | refine Ad (hi) ?_ | refine Ag (hf) (fun _ => ?_) (fun _ => ?_) | refine Ad (hf) ?_ | refine qQb ?_ | refine Ab (fun _ => ?_) (fun _ => ?_))
   exact ⟨Or.inr rfl, _, rfl, rfl⟩
  ·rw [if_neg h2] at hf ⊢
   repeat' (first | refine Ag (hi) (fun _ => ?_) (fun _ => ?_) | refine Ad (hi) ?_ | refine Ag (hf) (fun _ => ?_) (fun _ => ?_) | refine Ad (hf) ?_ | refine qQb ?_ | refine Ab (fun _ => ?_) (fun _ => ?_))
   exact ⟨Or.inr rfl, _, rfl, rfl⟩
 ·rw [if_neg h1] at hi
  rw [if_pos h1]
  repeat' (first | refine Ag (hi) (fun _ => ?_) (fun _ => ?_) | refine Ad (hi) ?_ | refine qQb ?_ | refine Ab (fun _ => ?_) (fun _ => ?_))
  exact ⟨Or.inr rfl, _, rfl, rfl⟩
theorem sD (k : Nat) (hk : 1000200 ≤ k) (f : Bool) (l : List UInt8) (hl : l.length < 1000000) (id : Int) : FnV (CF k) Qf [.islc false f 1 (BL l), .int .i64 id] (lD (Jt l id)) := by
 have hlk := Vc (k - 1) (by omega) f l hl
 refine fnk (by omega) kF rfl ?_
 unfold Tx Jt
 cases h : lookQ l with
 | error p =>
  obtain ⟨a, e⟩ := p
  have he := Oo h
  rw [h] at hlk
  unfold Ln at hlk
  simp only at hlk ⊢
  have he0 : (e : Int) ≠ 0 := by omega
  repeat' (first | refine qS ?_ | refine qN ?_ | refine Ag (hlk) (fun _ => ?_) (fun _ => ?_) | refine Ad (hlk) ?_ | refine qQb ?_ | refine Ab (fun _ => ?_) (fun _ => ?_))
  exact ⟨Or.inr rfl, _, rfl, rfl⟩
 | ok x =>
  rw [h] at hlk
  obtain ⟨hd, hx⟩ := Oz hl h
  have hfew := hx.few
  obtain ⟨f1, s1, hr, hs1⟩ := rIvF x.recs
  obtain ⟨f2, s2, hb, hs2⟩ := Jk x.blocks
  unfold Ln at hlk
  simp only at hlk ⊢
  have hfd := Aaw (k - 1) (by omega) f1 s1 x.recs x.sup.gen x.sup.blocks x.sup.root x.sup.size x.sup.first x.slot id hs1 (by omega)
  have hpd := kL (k - 1) (by omega) false f1 s1 x.recs (.int .i64 x.sup.gen) (.int .i64 x.sup.blocks) (.int .i64 x.sup.root) (.int .i64 x.sup.size) (.int .i64 x.sup.first) (.int .i64 x.slot) hs1
  unfold nG at hfd
  by_cases h1 : idOk id
  rotate_left 1
  ·rw [if_pos h1] at hfd ⊢
   unfold Img.cs at hlk
   rw [hr, hb] at hlk
   obtain ⟨⟨g, b, r, z, fi⟩, slot, recs, blocks, trees⟩ := x
   simp only at hlk hfd
   repeat' (first
    | refine qS ?_ | refine qN ?_ | refine Dh ?_ | refine Ag (hlk) (fun _ => ?_) (fun _ => ?_) | refine Ad (hlk) ?_ | refine Ag (hfd) (fun _ => ?_) (fun _ => ?_)
    | refine Ad (hfd) ?_ | refine qQb ?_ | refine Ab (fun _ => ?_) (fun _ => ?_))
   exact ⟨Or.inr rfl, _, rfl, rfl⟩
  rw [if_neg (fun hh => hh h1)] at hfd ⊢
  by_cases h2 : He x.recs id < 0
  ·rw [if_pos h2] at hfd ⊢
   unfold Img.cs at hlk
   rw [hr, hb] at hlk
   obtain ⟨⟨g, b, r, z, fi⟩, slot, recs, blocks, trees⟩ := x
   simp only at hlk hfd
   repeat' (first
    | refine qS ?_ | refine qN ?_ | refine Dh ?_ | refine Ag (hlk) (fun _ => ?_) (fun _ => ?_) | refine Ad (hlk) ?_ | refine Ag (hfd) (fun _ => ?_) (fun _ => ?_)
    | refine Ad (hfd) ?_ | refine qQb ?_ | refine Ab (fun _ => ?_) (fun _ => ?_))
   exact ⟨Or.inr rfl, _, rfl, rfl⟩
  rw [if_neg h2] at hfd ⊢
  have hfl := pW h2
  obtain ⟨q, hq⟩ : ∃ q : Nat, q = (He x.recs id).toNat := ⟨_, rfl⟩
  have hqi : He x.recs id = q := by omega
  rw [hqi] at hfd
  rw [← hq]
  have hmk := wQ (k - 1) (by omega) f l hd x hx (q + 1) rec0 false (by omega) (fun h => by cases h)
  obtain ⟨uf, us, ues, ue, hut⟩ := kR (Iq l x (q + 1) rec0 false)
  have hmk' : FnV (CF (k - 1)) Ro [.islc false f 1 (BL l), .iptr false (x.cs false f l), .int .i64 ((q : Int) + 1), .agg [.int .i64 0, .int .i64 0, .int .i64 0, .int .i64 0, .int .i64 0, .int .i64 0, .int .i64 0, .int .i64 0], .bool false] (.tup [.islc false uf us ues, .int .i64 ue]) := by rw [← hut]; exact hmk
  unfold Img.cs at hlk hmk'
  rw [hr, hb] at hlk hmk'
  cases hpp : We x.recs with
  | none =>
   rw [hpp] at hpd
   have hpd' : FnV (CF (k - 1)) Ly _ (.tup [.agg [.int .i64 0, .int .i64 0, .int .i64 0, .int .i64 0, .int .i64 0, .int .i64 0, .int .i64 0, .int .i64 0], .bool false]) := hpd
   rw [if_neg (by show ¬ (false = true); decide), hut]
   obtain ⟨⟨g, b, r, z, fi⟩, slot, recs, blocks, trees⟩ := x
   simp only at hlk hfd hpd' hmk'
   repeat' (first
    | refine qS ?_ | refine qN ?_ | refine Dh ?_ | refine Ag (hlk) (fun _ => ?_) (fun _ => ?_) | refine Ad (hlk) ?_ | refine Ag (hfd) (fun _ => ?_) (fun _ => ?_)
    | refine Ad (hfd) ?_ | refine Ag (hpd') (fun _ => ?_) (fun _ => ?_) | refine Ad (hpd') ?_ | refine Ag (hmk') (fun _ => ?_) (fun _ => ?_) | refine Ad (hmk') ?_
    | refine qQb ?_ | refine Ab (fun _ => ?_) (fun _ => ?_))
   exact ⟨Or.inr rfl, _, rfl, rfl⟩
  | some pr =>
   rw [hpp] at hpd
   obtain ⟨c1, c2, c3, c4, c5, c6, c7, c8⟩ := pr
   have hpd' : FnV (CF (k - 1)) Ly _ (.tup [.agg [.int .i64 c1, .int .i64 c2, .int .i64 c3, .int .i64 c4, .int .i64 c5, .int .i64 c6, .int .i64 c7, .int .i64 c8], .bool true]) := hpd
   simp only
   by_cases h3 : (c3 : Int) = id
   ·rw [if_pos (Az h3)]
    obtain ⟨⟨g, b, r, z, fi⟩, slot, recs, blocks, trees⟩ := x
    simp only at hlk hfd hpd'
    repeat' (first
     | refine qS ?_ | refine qN ?_ | refine Dh ?_ | refine Ag (hlk) (fun _ => ?_) (fun _ => ?_) | refine Ad (hlk) ?_ | refine Ag (hfd) (fun _ => ?_) (fun _ => ?_)
     | refine Ad (hfd) ?_ | refine Ag (hpd') (fun _ => ?_) (fun _ => ?_) | refine Ad (hpd') ?_ | refine qQb ?_ | refine Ab (fun _ => ?_) (fun _ => ?_))
    exact ⟨Or.inr rfl, _, rfl, rfl⟩
   ·rw [if_neg (by rw [Bo h3]; decide), hut]
    obtain ⟨⟨g, b, r, z, fi⟩, slot, recs, blocks, trees⟩ := x
    simp only at hlk hfd hpd' hmk'
    repeat' (first
     | refine qS ?_ | refine qN ?_ | refine Dh ?_ | refine Ag (hlk) (fun _ => ?_) (fun _ => ?_) | refine Ad (hlk) ?_ | refine Ag (hfd) (fun _ => ?_) (fun _ => ?_)
     | refine Ad (hfd) ?_ | refine Ag (hpd') (fun _ => ?_) (fun _ => ?_) | refine Ad (hpd') ?_ | refine Ag (hmk') (fun _ => ?_) (fun _ => ?_) | refine Ad (hmk') ?_
     | refine qQb ?_ | refine Ab (fun _ => ?_) (fun _ => ?_))
    exact ⟨Or.inr rfl, _, rfl, rfl⟩
theorem tF (k : Nat) (hk : 1000200 ≤ k) (f : Bool) (l : List UInt8) (hl : l.length < 1000000) (id : Int) : FnV (CF k) Oa [.islc false f 1 (BL l), .int .i64 id] (Abc (cY l id)) := by
 have hlk := Vc (k - 1) (by omega) f l hl
 refine fnk (by omega) dM rfl ?_
 unfold Qh cY
 cases h : lookQ l with
 | error p =>
  obtain ⟨a, e⟩ := p
  have he := Oo h
  rw [h] at hlk
  unfold Ln at hlk
  simp only at hlk ⊢
  have he0 : (e : Int) ≠ 0 := by omega
  repeat' (first | refine Ag (hlk) (fun _ => ?_) (fun _ => ?_) | refine Ad (hlk) ?_ | refine qQb ?_ | refine Ab (fun _ => ?_) (fun _ => ?_))
  exact ⟨Or.inr rfl, _, rfl, rfl⟩
 | ok x =>
  rw [h] at hlk
  obtain ⟨hd, hx⟩ := Oz hl h
  have hfew := hx.few
  obtain ⟨f1, s1, hr, hs1⟩ := rIvF x.recs
  obtain ⟨f2, s2, hb, hs2⟩ := Jk x.blocks
  unfold Ln at hlk
  simp only at hlk ⊢
  have hfd := Aaw (k - 1) (by omega) f1 s1 x.recs x.sup.gen x.sup.blocks x.sup.root x.sup.size x.sup.first x.slot id hs1 (by omega)
  unfold nG at hfd
  by_cases h1 : idOk id
  rotate_left 1
  ·rw [if_pos h1] at hfd ⊢
   unfold Img.cs at hlk
   rw [hr, hb] at hlk
   obtain ⟨⟨g, b, r, z, fi⟩, slot, recs, blocks, trees⟩ := x
   simp only at hlk hfd
   repeat' (first
    | refine qS ?_ | refine Dh ?_ | refine Ag (hlk) (fun _ => ?_) (fun _ => ?_) | refine Ad (hlk) ?_ | refine Ag (hfd) (fun _ => ?_) (fun _ => ?_)
    | refine Ad (hfd) ?_ | refine qQb ?_ | refine Ab (fun _ => ?_) (fun _ => ?_))
   exact ⟨Or.inr rfl, _, rfl, rfl⟩
  rw [if_neg (fun hh => hh h1)] at hfd ⊢
  by_cases h2 : He x.recs id < 0
  ·rw [if_pos h2] at hfd ⊢
   unfold Img.cs at hlk
   rw [hr, hb] at hlk
   obtain ⟨⟨g, b, r, z, fi⟩, slot, recs, blocks, trees⟩ := x
   simp only at hlk hfd
   repeat' (first
    | refine qS ?_ | refine Dh ?_ | refine Ag (hlk) (fun _ => ?_) (fun _ => ?_) | refine Ad (hlk) ?_ | refine Ag (hfd) (fun _ => ?_) (fun _ => ?_)
    | refine Ad (hfd) ?_ | refine qQb ?_ | refine Ab (fun _ => ?_) (fun _ => ?_))
   exact ⟨Or.inr rfl, _, rfl, rfl⟩
  rw [if_neg h2] at hfd ⊢
  have hfl := pW h2
  obtain ⟨q, hq⟩ : ∃ q : Nat, q = (He x.recs id).toNat := ⟨_, rfl⟩
  have hqi : He x.recs id = q := by omega
  rw [hqi] at hfd
  rw [← hq]
  have hql : q < x.recs.length := by omega
  have hs8 : s1 = 8 := hs1.resolve_right (fun h => by rw [h] at hql; simp at hql)
  subst hs8
  obtain ⟨⟨c1, c2, c3, c4, c5, c6, c7, c8⟩, hcr⟩ : ∃ r, r = x.recs.getD q default := ⟨_, rfl⟩
  have hri : x.recs[q] = ⟨c1, c2, c3, c4, c5, c6, c7, c8⟩ := by rw [hcr]; simp [hql]
  have hmem : (⟨c1, c2, c3, c4, c5, c6, c7, c8⟩ : Rec) ∈ x.recs := by rw [← hri]; exact Bz hql
  have hea : (x.recs.map Rec.av)[(q : Int).toNat]? = some (.agg [.int .i64 c1, .int .i64 c2, .int .i64 c3, .int .i64 c4, .int .i64 c5, .int .i64 c6, .int .i64 c7, .int .i64 c8]) := by
   rw [Bd, Cd, Ai hql, hri]; rfl
  have hrok := hx.recs _ hmem
  have hrlt := hx.roots c4 (Bi _ (Ca.2 ⟨_, hmem, rfl⟩))
  have hsok := hx.sup
  have hblk := hx.blocks
  have hst := Th (k - 1) (by omega) x.sup x.slot f1 8 (x.recs.map Rec.av) [] false true 0 c4 c5 x.sup.first hx.sup hx.slot (.inr rfl) (by decide) (fun _ h => by cases h) (fun hg => by
   refine ⟨⟨by show 1 ≤ x.sup.gen + 1; omega, by show x.sup.gen + 1 ≤ _; omega⟩, hsok.2.1, hrok.2.2.2.1, ?_, hsok.2.2.2.2⟩
   show c4 = 0 ∨ 2 ≤ c4 ∧ c4 < x.sup.blocks
   rw [hblk]
   rcases hrok.2.1 with h | h
   ·exact .inl h
   ·exact .inr ⟨h.1, hrlt⟩)
  have hlm : (x.recs.map Rec.av).length = x.recs.length := Ak _
  rw [← hcr]
  unfold Abc
  simp only
  unfold Img.cs at hlk
  rw [hr, hb] at hlk
  obtain ⟨⟨g, b, r, z, fi⟩, slot, recs, blocks, trees⟩ := x
  simp only at hlk hfd hst hea ⊢
  by_cases hg : g < 1099511627776
  ·rw [if_pos hg] at hst ⊢
   repeat' (first
    | refine qS ?_ | refine Dh ?_ | refine Dv rfl rfl (by omega) hea rfl rfl ?_ | refine Ag (hlk) (fun _ => ?_) (fun _ => ?_) | refine Ad (hlk) ?_
    | refine Ag (hfd) (fun _ => ?_) (fun _ => ?_) | refine Ad (hfd) ?_ | refine Ag (hst) (fun _ => ?_) (fun _ => ?_) | refine Ad (hst) ?_ | refine qQb ?_
    | refine Ab (fun _ => ?_) (fun _ => ?_))
   exact ⟨Or.inr rfl, _, rfl, rfl⟩
  ·rw [if_neg hg] at hst ⊢
   repeat' (first
    | refine qS ?_ | refine Dh ?_ | refine Dv rfl rfl (by omega) hea rfl rfl ?_ | refine Ag (hlk) (fun _ => ?_) (fun _ => ?_) | refine Ad (hlk) ?_
    | refine Ag (hfd) (fun _ => ?_) (fun _ => ?_) | refine Ad (hfd) ?_ | refine Ag (hst) (fun _ => ?_) (fun _ => ?_) | refine Ad (hst) ?_ | refine qQb ?_
    | refine Ab (fun _ => ?_) (fun _ => ?_))
   exact ⟨Or.inr rfl, _, rfl, rfl⟩
def aQ : Except (Nat × Nat) Img → AV
 | .ok x => .tup [.islc false false 1 (NL (idsP x.recs)), .int .i64 0]
 | .error (_, e) => .tup [.islc false false 1 [], .int .i64 e]
theorem Adv (recs : List Rec) : (idsP recs).length ≤ recs.length := by
 unfold idsP
 rw [Ak]
 exact Hb _ _
theorem yS {k : Nat} {recs : List Rec} {f' : Bool} {s' : Nat} {T : Tmps} {H : Heap} (hk : 1000000 ≤ k) (hs : s' = 8 ∨ recs = []) (hl : recs.length < 1000) (h2 : H 2 = ⟨1, false, .row 1 []⟩)
  (hT : Has T [(7, .slc 2 1 0 1 0 0 none), (23, .islc false f' s' (recs.map Rec.av)), (24, .int .i64 recs.length), (25, .int .i64 0)]) :
  W (Bb (CF k) noX 0 k (.loop Yg) T H) (fun ex T' H' => ex = .exit 0 ∧ H' 2 = ⟨1, false, .row 1 (NL (idsP recs))⟩ ∧ T' 7 = .slc 2 1 (idsP recs).length 1 0 (idsP recs).length none) := by
 refine Fx recs.length (fun i T' H' => H' 2 = ⟨1, false, .row 1 (NL (idsP (recs.take i)))⟩ ∧ Has T' [(7, .slc 2 1 (idsP (recs.take i)).length 1 0 (idsP (recs.take i)).length none), (23, .islc false f' s' (recs.map Rec.av)), (24, .int .i64 recs.length), (25, .int .i64 (i : Nat))]) ⟨h2, hT⟩ (by omega) ?_
 rintro i T H hi ⟨g2, hT⟩
 rw [hT.eq]
 simp only [over]
 unfold Yg
 by_cases hil : i < recs.length
 ·obtain rfl : s' = 8 := hs.resolve_right (fun h => by rw [h] at hil; simp at hil)
  obtain ⟨⟨b1, b2, b3, b4, b5, b6, b7, b8⟩, hr⟩ : ∃ r, r = recs[i] := ⟨_, rfl⟩
  have he2 : (recs.map Rec.av)[(i : Int).toNat]? = some (.agg [.int .i64 b1, .int .i64 b2, .int .i64 b3, .int .i64 b4, .int .i64 b5, .int .i64 b6, .int .i64 b7, .int .i64 b8]) := by
   rw [Bd, Cd, Ai hil, ← hr]; rfl
  have hql := Adv (recs.take i)
  rw [Cf] at hql
  have hst : idsP (recs.take (i + 1)) = idsP (recs.take i) ++ (if b6 = 0 then [b2] else []) := by
   unfold idsP
   rw [Bh hil, ← hr, Gd, Br]
   congr 1
   simp only [Gg, List.filter_nil, Hl, Dj]
   by_cases h : b6 = 0
   ·rw [if_pos h, if_pos h]; rfl
   ·rw [if_neg h, if_neg h]; rfl
  obtain ⟨q, hq⟩ : ∃ q, q = idsP (recs.take i) := ⟨_, rfl⟩
  rw [← hq] at g2 hql hst ⊢
  by_cases h0 : b6 = 0
  ·rw [if_pos h0] at hst
   have h0' : (b6 : Int) = 0 := by omega
   repeat' (first
    | refine qS ?_ | refine Dv rfl rfl (by omega) he2 rfl rfl ?_ | refine It rfl rfl rfl (by exact g2) (Be q) rfl (by omega) rfl rfl (fun _ => ?_) | refine qQb ?_
    | refine Ab (fun _ => ?_) (fun _ => ?_) | refine Ax fun _ => ?_)
   refine ⟨hil, ?_, ?_, rfl, rfl, by show AV.int _ _ = AV.int _ _; congr 1, trivial⟩
   ·rw [hst, Zt]; rfl
   ·rw [hst, Ar]; rfl
  ·rw [if_neg h0, Bt] at hst
   have h0' : (b6 : Int) ≠ 0 := by omega
   repeat' (first | refine qS ?_ | refine Dv rfl rfl (by omega) he2 rfl rfl ?_ | refine qQb ?_ | refine Ab (fun _ => ?_) (fun _ => ?_) | refine Ax fun _ => ?_)
   exact ⟨hil, by rw [hst]; exact g2, by rw [hst]; rfl, rfl, rfl, by show AV.int _ _ = AV.int _ _; congr 1, trivial⟩
 ·have hin : i = recs.length := by omega
  subst hin
  rw [Bp] at g2 ⊢
  repeat' (first | refine qQb ?_ | refine Ab (fun _ => ?_) (fun _ => ?_) | refine Ax fun _ => ?_)
  exact ⟨rfl, g2, rfl⟩
theorem tE (k : Nat) (hk : 1000200 ≤ k) (f : Bool) (l : List UInt8) (hl : l.length < 1000000) : FnV (CF k) Sv [.islc false f 1 (BL l)] (aQ (lookQ l)) := by
 have hlk := Vc (k - 1) (by omega) f l hl
 refine fnk (by omega) sI rfl ?_
 unfold snap_List
 cases h : lookQ l with
 | error p =>
  obtain ⟨a, e⟩ := p
  have he := Oo h
  rw [h] at hlk
  unfold Ln at hlk
  unfold aQ
  simp only at hlk ⊢
  have he0 : (e : Int) ≠ 0 := by omega
  repeat' (first | refine Ag (hlk) (fun _ => ?_) (fun _ => ?_) | refine Ad (hlk) ?_ | refine qQb ?_ | refine Ab (fun _ => ?_) (fun _ => ?_) | refine Ax fun _ => ?_)
  exact ⟨Or.inr rfl, .tup [.slc 1 1 0 1 0 0 none, .int .i64 e], rfl, rfl⟩
 | ok x =>
  rw [h] at hlk
  obtain ⟨hd, hx⟩ := Oz hl h
  have hfew := hx.few
  obtain ⟨f1, s1, hr, hs1⟩ := rIvF x.recs
  obtain ⟨f2, s2, hb, hs2⟩ := Jk x.blocks
  unfold Ln at hlk
  unfold aQ
  simp only at hlk ⊢
  have hlr : (x.recs.map Rec.av).length = x.recs.length := Ak _
  unfold Img.cs at hlk
  rw [hr, hb] at hlk
  repeat' (first
   | refine qS ?_ | refine Dh ?_ | refine Ba (n := x.recs.length) rfl hlr rfl rfl ?_ | refine Ag (hlk) (fun _ => ?_) (fun _ => ?_) | refine Ad (hlk) ?_ | refine qQb ?_
   | refine Ab (fun _ => ?_) (fun _ => ?_) | refine Ax fun _ => ?_)
  refine W.mono (yS (k := k - 1) (recs := x.recs) (f' := f1) (s' := s1) (by omega) hs1 (by omega) ?_ ?_) ?_
  ·rfl
  ·exact ⟨rfl, rfl, rfl, rfl, trivial⟩
  rintro ex T2 H2 ⟨rfl, g2, h7⟩
  rw [Has.eq (T := T2) (ps := [(7, _)]) ⟨h7, trivial⟩]
  simp only [over]
  show W _ _
  repeat' (first | refine qQb ?_ | refine Ab (fun _ => ?_) (fun _ => ?_) | refine Ax fun _ => ?_)
  exact ⟨Or.inr rfl, .tup [.slc 2 1 (idsP x.recs).length 1 0 (idsP x.recs).length none, .int .i64 0], rfl, Ay (fun z => AV.tup [z, .int .i64 0]) (Ge (out := true) g2 rfl 3)⟩
end Go.Proofs.Ytkaiiopoilpjeaa
