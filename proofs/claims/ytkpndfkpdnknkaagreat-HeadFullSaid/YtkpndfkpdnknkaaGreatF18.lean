import Derived.Test.YtkpndfkpdnknkaaGreatF17
set_option linter.unusedSimpArgs false
set_option linter.unusedVariables false
set_option maxRecDepth 10000
namespace Go.Proofs.YtkpndfkpdnknkaaGreat
open Go.AI
section
variable {l : List UInt8} {root : Nat} {m m0 : List Nat}
theorem getD_some {m : List Nat} {i : Nat} (h : i < m.length) : m[i]? = some (m.getD i 0) := by
 rw [Ae, Aa h]; rfl
theorem Abn (hm : m.length = 512) (hm0 : m0.length = 512) {lv : Nat} {P : List Nat} (h : ∀ pl, ¬ Mr (part m lv pl) → (∃ i, 8 ^ (lv + 1) * pl ≤ i ∧ i < 8 ^ (lv + 1) * pl + 8 ^ (lv + 1) ∧ m.getD i 0 ≠ m0.getD i 0) → pl ∈ P) : Dn (Cu l root m m0 lv) ≤ P.length := by
 unfold Dn Cu
 rw [List.filter_map, Ah]
 refine bF _ _ (List.nodup_range.filter _) fun pl hpl => ?_
 obtain ⟨h1, h2⟩ := Eh.1 hpl
 have h2 : Fq m m0 (wasL l root (2 - lv)) lv pl = none := by simpa using h2
 refine h pl (Qv h2) (Dm fun hno => ?_)
 have he : part m lv pl = part m0 lv pl := by
  unfold part
  refine List.ext_getElem? fun j => ?_
  rw [Fv, Fv]
  by_cases hj : j < 8 ^ (lv + 1)
  ·rw [if_pos hj, if_pos hj, Fu, Fu]
   by_cases hi : 8 ^ (lv + 1) * pl + j < 512
   ·rw [getD_some (by omega), getD_some (by omega)]
    exact Bk some (Dm fun hne => hno ⟨_, by omega, by omega, hne⟩)
   ·rw [Dp (by omega), Dp (by omega)]
  ·rw [if_neg hj, if_neg hj]
 unfold Fq at h2
 split at h2
 ·cases h2
 ·first | cases h2 | (rw [if_pos he] at h2; cases h2)
theorem Uh (hm : m.length = 512) (hm0 : m0.length = 512) {a n : Nat} (h : ∀ i, ¬ (a ≤ i ∧ i < a + n) → m.getD i 0 = m0.getD i 0) : Ho l root m m0 ≤ 3 * n := by
 have key : ∀ lv, Dn (Cu l root m m0 lv) ≤ n := by
  intro lv
  have := Abn (l := l) (root := root) hm hm0 (lv := lv) (P := (List.range n).map fun i => (a + i) / 8 ^ (lv + 1)) fun pl _ ⟨i, h1, h2, hne⟩ => by
   have hi : a ≤ i ∧ i < a + n := Dm fun hh => hne (h i hh)
   refine Bt.2 ⟨i - a, Bw.2 (by omega), ?_⟩
   show (a + (i - a)) / 8 ^ (lv + 1) = pl
   rw [show a + (i - a) = i by omega]
   refine Nat.div_eq_of_lt_le ?_ ?_
   ·rw [Gl]; exact h1
   ·rw [Mn, Gl]; exact h2
  rwa [Ah, Ek] at this
 have h0 := key 0
 have h1 := key 1
 have h2 := key 2
 unfold Ho; omega
theorem xU (hm : m.length = 512) (hm0 : m0.length = 512) {z : Nat} (hz : ∀ i, z ≤ i → m.getD i 0 = 0) (h : ∀ i, i < z → m.getD i 0 = m0.getD i 0) : Ho l root m m0 ≤ 3 := by
 have key : ∀ lv, Dn (Cu l root m m0 lv) ≤ 1 := by
  intro lv
  refine Abn (l := l) (root := root) hm hm0 (lv := lv) (P := [z / 8 ^ (lv + 1)]) fun pl hnz ⟨i, h1, h2, hne⟩ => ?_
  have hi : z ≤ i := Dm fun hh => hne (h i (by omega))
  rw [Bo]
  refine (Nat.div_eq_of_lt_le ?_ ?_).symm
  ·rw [Gl]
   refine Nat.le_of_not_lt fun hlt => hnz fun b hb => ?_
   obtain ⟨j, hj, rfl⟩ := List.getElem_of_mem hb
   unfold part at hj ⊢
   rw [Ay, Bl] at hj
   rw [List.getElem_take, Qm]
   have := hz (8 ^ (lv + 1) * pl + j) (by omega)
   rw [Ae, Aa (by omega)] at this
   exact this
  ·rw [Mn, Gl]; omega
 have h0 := key 0
 have h1 := key 1
 have h2 := key 2
 unfold Ho; omega
end
section
variable {s : St}
theorem dA (s : St) (frm : Nat) (d : List UInt8) : ∀ n, (s.write frm d n).m.length = s.m.length ∧ (∀ j, ¬ (frm ≤ j ∧ j < frm + n) → (s.write frm d n).m.getD j 0 = s.m.getD j 0) ∧ (s.nw = [] → (s.write frm d n).nw.length ≤ n ∧ ∀ p ∈ (s.write frm d n).nw, frm ≤ p.1 ∧ p.1 < frm + n)
 | 0 => ⟨rfl, fun _ _ => rfl, fun h => by show s.nw.length ≤ 0 ∧ _; rw [h]; exact ⟨Bc _, fun p hp => by have hp : p ∈ s.nw := hp; rw [h] at hp; cases hp⟩⟩
 | n + 1 => by
  obtain ⟨h1, h2, h3⟩ := dA s frm d n
  refine ⟨by show ((s.write frm d n).m.set (frm + n) 0).length = _; rw [Ee]; exact h1, fun j hj => ?_, fun hn => ?_⟩
  ·show ((s.write frm d n).m.set (frm + n) 0).getD j 0 = _
   rw [Oq, if_neg (by omega), h2 j (by omega)]
  ·obtain ⟨g1, g2⟩ := h3 hn
   have hq : frm + n ∉ (s.write frm d n).nw.map Prod.fst := fun hh => by
    obtain ⟨p, hp, he⟩ := Bt.1 hh
    have := g2 p hp; omega
   have hdel : nDel (frm + n) (s.write frm d n).nw = (s.write frm d n).nw := nDel_none _ hq
   have hset : (s.write frm d (n + 1)).nw = (s.write frm d n).nw ++ [(frm + n, blk d n)] := by
    show nSet (frm + n) (blk d n) (nDel (frm + n) (s.write frm d n).nw) = _
    rw [hdel, rA _ _ _ hq]
   rw [hset]
   refine ⟨by rw [Am]; simp; omega, fun p hp => ?_⟩
   rcases Bq.1 hp with hp | hp
   ·have := g2 p hp; omega
   ·rw [Bo.1 hp]; simp only; omega
where
 nDel_none {k : Nat} : ∀ l : List (Nat × List UInt8), k ∉ l.map Prod.fst → nDel k l = l
  | [], _ => rfl
  | (a, u) :: r, h => by
   rw [Bb, Ar, not_or] at h
   unfold nDel
   rw [if_neg h.1, nDel_none r h.2]
theorem lM (s : St) (frm : Nat) (ps : List Nat) : ∀ n, (s.clone frm ps n).m.length = s.m.length ∧ (∀ j, ¬ (frm ≤ j ∧ j < frm + n) → (s.clone frm ps n).m.getD j 0 = s.m.getD j 0) ∧ (s.nw = [] → (s.clone frm ps n).nw = [])
 | 0 => ⟨rfl, fun _ _ => rfl, fun h => h⟩
 | n + 1 => by
  obtain ⟨h1, h2, h3⟩ := lM s frm ps n
  refine ⟨by show ((s.clone frm ps n).m.set (frm + n) _).length = _; rw [Ee]; exact h1, fun j hj => ?_, fun hn => ?_⟩
  ·show ((s.clone frm ps n).m.set (frm + n) _).getD j 0 = _
   rw [Oq, if_neg (by omega), h2 j (by omega)]
  ·show nDel (frm + n) (s.clone frm ps n).nw = []
   rw [h3 hn]; rfl
theorem Nv (hs : s.m.length = 512) (fs : List Nat) {j : Nat} (h : ∀ p ∈ s.nw, p.1 ≠ j) : (layM s fs).getD j 0 = s.m.getD j 0 := by
 unfold layM
 refine qR s hs _ 512 j (.inl (zW j _ fun hh => ?_))
 obtain ⟨p, hp, he⟩ := Bt.1 hh
 exact h p hp he
theorem Pa (hs : s.m.length = 512) (fs : List Nat) : (layM s fs).length = 512 := by unfold layM; rw [(Rx s _ 512).1, hs]
end
theorem Rd {l : List UInt8} {x : Img} {s : St} (h : Gz l x s = .error 9) : (Cm (Bn l x)).length < s.nw.length + Ho l x.sup.root (layM s (Cm (Bn l x))) (Bh x).m := by
 unfold Gz at h
 split at h
 ·cases h
 ·split at h
  ·rename_i hl
   unfold layP at hl
   split at hl
   ·omega
   ·split at hl
    ·rename_i h1 h2
     rw [Om, Bl] at h2
     show _ < _ + Ho l x.sup.root _ (x.trees.headD ⟨[], [], false⟩).m
     omega
    ·cases hl
  ·cases h
theorem hU {l : List UInt8} {chk : Img → Nat} {st : Img → St} (h : hdoP l chk st = .error 9) (hc9 : ∀ x, chk x ≠ 9) : ∃ x, lookQ l = .ok x ∧ chk x = 0 ∧ Gz l x (st x) = .error 9 := by
 unfold hdoP at h
 cases hq : lookQ l with
 | error p =>
  obtain ⟨a, e⟩ := p
  rw [hq] at h
  have := Jr hq
  cases h; omega
 | ok x =>
  rw [hq] at h
  simp only at h
  split at h
  ·exact absurd (Except.error.inj h) (hc9 x)
  ·rename_i hc
   exact ⟨x, rfl, Dm hc, h⟩
theorem qE (frm count least size : Int) : mayE frm count least size ≠ 9 := by
 unfold mayE; split
 ·decide
 ·split <;> decide
theorem Atd {l : List UInt8} (hl : l.length < 1000000) {m frm count source : Int} (hm : m = 0 ∨ m = 1 ∨ m = 2 ∨ m = 3) {d : List UInt8} (h : doP l m frm count source d = .error 9) : ∃ x, lookQ l = .ok x ∧ (m = 0 → (Cm (Bn l x)).length < d.length / 64 + min (3 * (d.length / 64)) 73) ∧
  (m = 1 ∨ m = 2 → ((Cm (Bn l x)).length : Int) < min (3 * count) 73 ∧ 0 ≤ count ∧ count ≤ 512) ∧ (m = 3 → (Cm (Bn l x)).length < 3) := by
 have facts : ∀ x, lookQ l = .ok x → (Bh x).m.length = 512 ∧ x.sup.size ≤ 512 := fun x hq => by
  obtain ⟨_, _, hS, hsz, _⟩ := Ju hl hq
  exact ⟨hS.len, hsz⟩
 unfold doP at h
 rcases hm with rfl | rfl | rfl | rfl
 ·rw [if_pos rfl] at h
  obtain ⟨x, hq, hc, hk⟩ := hU h fun x => by
   unfold Ku
   split
   ·decide
   ·exact qE _ _ _ _
  obtain ⟨hlen, hsz⟩ := facts x hq
  refine ⟨x, hq, fun _ => ?_, fun h => by omega, fun h => by omega⟩
  have hf := Rd hk
  unfold Ku at hc
  split at hc
  ·cases hc
  ·obtain ⟨a, n, rfl, hn, h1, h2⟩ := Kd hc hsz (by decide)
   have hn : d.length / 64 = n := by omega
   have e : Ff a d x = (Bh x).write a d n := by unfold Ff; rw [hn]; rfl
   rw [e] at hf
   obtain ⟨w1, w2, w3⟩ := dA (Bh x) a d n
   obtain ⟨w4, w5⟩ := w3 rfl
   have hn1 := Uh (l := l) (root := x.sup.root) (Pa (s := (Bh x).write a d n) (w1.trans hlen) (Cm (Bn l x))) hlen (a := a) (n := n) fun i hi => by
    rw [Nv (w1.trans hlen) _ fun p hp => (by have := w5 p hp; omega), w2 i hi]
   have hn2 := iM l x.sup.root (layM ((Bh x).write a d n) (Cm (Bn l x))) (Bh x).m
   rw [hn]; omega
 ·rw [if_neg (by decide), if_pos rfl] at h
  obtain ⟨x, hq, hc, hk⟩ := hU h fun x => qE _ _ _ _
  obtain ⟨hlen, hsz⟩ := facts x hq
  refine ⟨x, hq, fun h => by omega, fun _ => ?_, fun h => by omega⟩
  have hf := Rd hk
  obtain ⟨a, n, rfl, rfl, h1, h2⟩ := Kd hc hsz (by decide)
  have e : fE a n x = (Bh x).zero a n := rfl
  rw [e] at hf
  have hnw := dJ (Bh x) rfl a n
  have hz := fun j => Xi (Bh x) hlen a n j h2
  have hn1 := Uh (l := l) (root := x.sup.root) (Pa (s := (Bh x).zero a n) (hz 0).1 (Cm (Bn l x))) hlen (a := a) (n := n) fun i hi => by
   rw [Nv (hz 0).1 _ fun p hp => (by rw [hnw] at hp; cases hp), (hz i).2, if_neg hi]
  have hn2 := iM l x.sup.root (layM ((Bh x).zero a n) (Cm (Bn l x))) (Bh x).m
  rw [hnw, Cq] at hf
  omega
 ·rw [if_neg (by decide), if_neg (by decide), if_pos rfl] at h
  obtain ⟨x, hq, hc, hk⟩ := hU h fun x => by
   unfold twoE
   split
   ·decide
   ·split
    ·exact qE _ _ _ _
    ·exact qE _ _ _ _
  obtain ⟨hlen, hsz⟩ := facts x hq
  refine ⟨x, hq, fun h => by omega, fun _ => ?_, fun h => by omega⟩
  have hf := Rd hk
  have hc1 : mayE frm count 1 x.sup.size = 0 := by
   unfold twoE at hc
   split at hc
   ·cases hc
   ·split at hc
    ·assumption
    ·rename_i h1 h2; exact absurd hc h2
  obtain ⟨a, n, rfl, rfl, h1, h2⟩ := Kd hc1 hsz (by decide)
  have e : Zl a n source x = (Bh x).clone a (((Bh x).m.drop source.toNat).take n) n := rfl
  rw [e] at hf
  generalize ((Bh x).m.drop source.toNat).take n = ps at *
  obtain ⟨w1, w2, w3⟩ := lM (Bh x) a ps n
  have hnw := w3 rfl
  have hn1 := Uh (l := l) (root := x.sup.root) (Pa (s := (Bh x).clone a ps n) (w1.trans hlen) (Cm (Bn l x))) hlen (a := a) (n := n) fun i hi => by
   rw [Nv (w1.trans hlen) _ fun p hp => (by rw [hnw] at hp; cases hp), w2 i hi]
  have hn2 := iM l x.sup.root (layM ((Bh x).clone a ps n) (Cm (Bn l x))) (Bh x).m
  rw [hnw, Cq] at hf
  omega
 ·rw [if_neg (by decide), if_neg (by decide), if_neg (by decide)] at h
  obtain ⟨x, hq, hc, hk⟩ := hU h fun x => by
   unfold Km
   split <;> decide
  obtain ⟨hlen, hsz⟩ := facts x hq
  refine ⟨x, hq, fun h => by omega, fun h => by omega, fun _ => ?_⟩
  have hf := Rd hk
  unfold Km at hc
  split at hc
  ·cases hc
  ·obtain ⟨z, rfl⟩ : ∃ z : Nat, count = z := ⟨count.toNat, by omega⟩
   have e : Jk z x = { (Bh x).zero z (512 - z) with size := z } := rfl
   rw [e] at hf
   have hnw := dJ (Bh x) rfl z (512 - z)
   have hz := fun j => Xi (Bh x) hlen z (512 - z) j (by omega)
   have hML := Pa (s := { (Bh x).zero z (512 - z) with size := z }) (hz 0).1 (Cm (Bn l x))
   have hg : ∀ i, (layM { (Bh x).zero z (512 - z) with size := z } (Cm (Bn l x))).getD i 0 = ((Bh x).zero z (512 - z)).m.getD i 0 := fun i => Nv (s := { (Bh x).zero z (512 - z) with size := z }) (hz 0).1 _ fun p hp => by
    have hp : p ∈ ((Bh x).zero z (512 - z)).nw := hp
    rw [hnw] at hp; cases hp
   have hn1 := xU (l := l) (root := x.sup.root) hML hlen (z := z) (fun i hi => by
    rw [hg, (hz i).2]
    by_cases h5 : i < 512
    ·rw [if_pos (by omega)]
    ·rw [if_neg (by omega), Ae, Dp (by omega)]; rfl) fun i hi => by rw [hg, (hz i).2, if_neg (by omega)]
   have hn0 : ({ (Bh x).zero z (512 - z) with size := z } : St).nw.length = 0 := by
    show ((Bh x).zero z (512 - z)).nw.length = 0
    rw [hnw]; rfl
   omega
end Go.Proofs.YtkpndfkpdnknkaaGreat

