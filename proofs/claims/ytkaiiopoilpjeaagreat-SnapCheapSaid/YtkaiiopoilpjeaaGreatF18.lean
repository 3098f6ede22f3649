import Derived.Test.YtkaiiopoilpjeaaGreatF17
set_option linter.unusedSimpArgs false
set_option linter.unusedVariables false
set_option maxRecDepth 10000
namespace Go.Proofs.YtkaiiopoilpjeaaGreat
open Go.AI
section
variable {l : List UInt8} {root : Nat} {m m0 : List Nat}
theorem getD_some {m : List Nat} {i : Nat} (h : i < m.length) : m[i]? = some (m.getD i 0) := by
 rw [Af, Aa h]; rfl
theorem zL (hm : m.length = 512) (hm0 : m0.length = 512) {lv : Nat} {P : List Nat} (h : ∀ pl, ¬ Mp (part m lv pl) → (∃ i, 8 ^ (lv + 1) * pl ≤ i ∧ i < 8 ^ (lv + 1) * pl + 8 ^ (lv + 1) ∧ m.getD i 0 ≠ m0.getD i 0) → pl ∈ P) : Dr (Cv l root m m0 lv) ≤ P.length := by
 unfold Dr Cv
 rw [List.filter_map, Ah]
 refine Pt _ _ (List.nodup_range.filter _) fun pl hpl => ?_
 obtain ⟨h1, h2⟩ := Ew.1 hpl
 have h2 : Fq m m0 (wasL l root (2 - lv)) lv pl = none := by simpa using h2
 refine h pl (Qu h2) (He fun hno => ?_)
 have he : part m lv pl = part m0 lv pl := by
  unfold part
  refine List.ext_getElem? fun j => ?_
  rw [Ol, Ol]
  by_cases hj : j < 8 ^ (lv + 1)
  ·rw [if_pos hj, if_pos hj, Ok, Ok]
   by_cases hi : 8 ^ (lv + 1) * pl + j < 512
   ·rw [getD_some (by omega), getD_some (by omega)]
    exact Bo some (He fun hne => hno ⟨_, by omega, by omega, hne⟩)
   ·rw [Dt (by omega), Dt (by omega)]
  ·rw [if_neg hj, if_neg hj]
 unfold Fq at h2
 split at h2
 ·cases h2
 ·first | cases h2 | (rw [if_pos he] at h2; cases h2)
theorem Acg (hm : m.length = 512) (hm0 : m0.length = 512) {a n : Nat} (h : ∀ i, ¬ (a ≤ i ∧ i < a + n) → m.getD i 0 = m0.getD i 0) : Ht l root m m0 ≤ 3 * n := by
 have key : ∀ lv, Dr (Cv l root m m0 lv) ≤ n := by
  intro lv
  have := zL (l := l) (root := root) hm hm0 (lv := lv) (P := (List.range n).map fun i => (a + i) / 8 ^ (lv + 1)) fun pl _ ⟨i, h1, h2, hne⟩ => by
   have hi : a ≤ i ∧ i < a + n := He fun hh => hne (h i hh)
   refine Bz.2 ⟨i - a, Cc.2 (by omega), ?_⟩
   show (a + (i - a)) / 8 ^ (lv + 1) = pl
   rw [show a + (i - a) = i by omega]
   refine Nat.div_eq_of_lt_le ?_ ?_
   ·rw [Gl]; exact h1
   ·rw [Mo, Gl]; exact h2
  rwa [Ah, Gm] at this
 have h0 := key 0
 have h1 := key 1
 have h2 := key 2
 unfold Ht; omega
theorem Ale (hm : m.length = 512) (hm0 : m0.length = 512) {z : Nat} (hz : ∀ i, z ≤ i → m.getD i 0 = 0) (h : ∀ i, i < z → m.getD i 0 = m0.getD i 0) : Ht l root m m0 ≤ 3 := by
 have key : ∀ lv, Dr (Cv l root m m0 lv) ≤ 1 := by
  intro lv
  refine zL (l := l) (root := root) hm hm0 (lv := lv) (P := [z / 8 ^ (lv + 1)]) fun pl hnz ⟨i, h1, h2, hne⟩ => ?_
  have hi : z ≤ i := He fun hh => hne (h i (by omega))
  rw [Bg]
  refine (Nat.div_eq_of_lt_le ?_ ?_).symm
  ·rw [Gl]
   refine Nat.le_of_not_lt fun hlt => hnz fun b hb => ?_
   obtain ⟨j, hj, rfl⟩ := List.getElem_of_mem hb
   unfold part at hj ⊢
   rw [Bc, Ba] at hj
   rw [List.getElem_take, Qg]
   have := hz (8 ^ (lv + 1) * pl + j) (by omega)
   rw [Af, Aa (by omega)] at this
   exact this
  ·rw [Mo, Gl]; omega
 have h0 := key 0
 have h1 := key 1
 have h2 := key 2
 unfold Ht; omega
end
section
variable {s : St}
theorem kZ (s : St) (frm : Nat) (d : List UInt8) : ∀ n, (s.write frm d n).m.length = s.m.length ∧ (∀ j, ¬ (frm ≤ j ∧ j < frm + n) → (s.write frm d n).m.getD j 0 = s.m.getD j 0) ∧ (s.nw = [] → (s.write frm d n).nw.length ≤ n ∧ ∀ p ∈ (s.write frm d n).nw, frm ≤ p.1 ∧ p.1 < frm + n)
 | 0 => ⟨rfl, fun _ _ => rfl, fun h => by show s.nw.length ≤ 0 ∧ _; rw [h]; exact ⟨Au _, fun p hp => by have hp : p ∈ s.nw := hp; rw [h] at hp; cases hp⟩⟩
 | n + 1 => by
  obtain ⟨h1, h2, h3⟩ := kZ s frm d n
  refine ⟨by show ((s.write frm d n).m.set (frm + n) 0).length = _; rw [El]; exact h1, fun j hj => ?_, fun hn => ?_⟩
  ·show ((s.write frm d n).m.set (frm + n) 0).getD j 0 = _
   rw [Qw, if_neg (by omega), h2 j (by omega)]
  ·obtain ⟨g1, g2⟩ := h3 hn
   have hq : frm + n ∉ (s.write frm d n).nw.map Prod.fst := fun hh => by
    obtain ⟨p, hp, he⟩ := Bz.1 hh
    have := g2 p hp; omega
   have hdel : nDel (frm + n) (s.write frm d n).nw = (s.write frm d n).nw := nDel_none _ hq
   have hset : (s.write frm d (n + 1)).nw = (s.write frm d n).nw ++ [(frm + n, blk d n)] := by
    show nSet (frm + n) (blk d n) (nDel (frm + n) (s.write frm d n).nw) = _
    rw [hdel, oJ _ _ _ hq]
   rw [hset]
   refine ⟨by rw [An]; simp; omega, fun p hp => ?_⟩
   rcases Bi.1 hp with hp | hp
   ·have := g2 p hp; omega
   ·rw [Bg.1 hp]; simp only; omega
where
 nDel_none {k : Nat} : ∀ l : List (Nat × List UInt8), k ∉ l.map Prod.fst → nDel k l = l
  | [], _ => rfl
  | (a, u) :: r, h => by
   rw [Aw, Ap, not_or] at h
   unfold nDel
   rw [if_neg h.1, nDel_none r h.2]
theorem fL (hs : s.m.length = 512) (fs : List Nat) {j : Nat} (h : ∀ p ∈ s.nw, p.1 ≠ j) : (layM s fs).getD j 0 = s.m.getD j 0 := by
 unfold layM
 refine nX s hs _ 512 j (.inl (vJ j _ fun hh => ?_))
 obtain ⟨p, hp, he⟩ := Bz.1 hh
 exact h p hp he
theorem sQ (hs : s.m.length = 512) (fs : List Nat) : (layM s fs).length = 512 := by unfold layM; rw [(Re s _ 512).1, hs]
end
theorem Ahv {l : List UInt8} {x : Img} {s : St} (h : Ky l x s = .error 9) : (Cd (Ay l x)).length < s.nw.length + Ht l x.sup.root (layM s (Cd (Ay l x))) (Dh x).m := by
 unfold Ky at h
 split at h
 ·cases h
 ·split at h
  ·rename_i hl
   unfold layP at hl
   split at hl
   ·omega
   ·split at hl
    ·rename_i h1 h2
     rw [Oq, Ba] at h2
     show _ < _ + Ht l x.sup.root _ (x.trees.headD ⟨[], [], false⟩).m
     omega
    ·cases hl
  ·cases h
end Go.Proofs.YtkaiiopoilpjeaaGreat

