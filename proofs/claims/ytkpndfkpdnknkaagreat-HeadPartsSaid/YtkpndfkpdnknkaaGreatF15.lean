import Derived.Test.YtkpndfkpdnknkaaGreatMJ8
set_option linter.unusedSimpArgs false
set_option linter.unusedVariables false
set_option maxRecDepth 10000
namespace Go.Proofs.YtkpndfkpdnknkaaGreat
open Go.AI
theorem zW (j : Nat) : ∀ l : List (Nat × List UInt8), j ∉ l.map Prod.fst → nGet j l = none := fun l h => by
 cases hg : nGet j l with
 | none => rfl
 | some d => exact absurd ((iU j l).1 (by rw [hg]; rfl)) h
theorem Afi (k j : Nat) : ∀ l : List (Nat × List UInt8), (l.map Prod.fst).Nodup → nGet j (nDel k l) = if j = k then none else nGet j l
 | [], _ => by unfold nDel nGet; split <;> rfl
 | (a, u) :: r, h => by
  rw [Bb, Gu] at h
  unfold nDel
  by_cases hk : k = a
  ·rw [if_pos hk]
   by_cases hj : j = k
   ·rw [if_pos hj]
    exact zW j r (by rw [hj, hk]; exact h.1)
   ·rw [if_neg hj]
    conv => rhs; unfold nGet
    rw [if_neg (by omega)]
  ·rw [if_neg hk]
   have ih := Afi k j r h.2
   unfold nGet
   by_cases hj : j = a
   ·rw [if_pos hj, if_neg (by omega), if_pos hj]
   ·rw [if_neg hj, ih, if_neg hj]
theorem vH (k j : Nat) (v : List UInt8) : ∀ l : List (Nat × List UInt8), nGet j (nSet k v l) = if j = k then some v else nGet j l
 | [] => by unfold nSet nGet; rfl
 | (a, u) :: r => by
  have ih := vH k j v r
  unfold nSet
  by_cases hk : k = a
  ·rw [if_pos hk]
   unfold nGet
   by_cases hj : j = a
   ·rw [if_pos hj, if_pos (by omega)]
   ·rw [if_neg hj, if_neg (by omega), if_neg hj]
  ·rw [if_neg hk]
   unfold nGet
   by_cases hj : j = a
   ·rw [if_pos hj, if_neg (by omega), if_pos hj]
   ·rw [if_neg hj, ih, if_neg hj]
def Iz : List UInt8 := List.replicate 64 0
section
variable {l : List UInt8} {w : WS} {s : St}
theorem lL (h : StOk w s) {i a : Nat} (j : Nat) (hi : i < 512) : Pt l (s.put i a) j = if j = i then secB l a else Pt l s j := by
 show (nGet j (nDel i s.nw)).getD (secB l ((s.m.set i a).getD j 0)) = _
 rw [Afi i j s.nw h.keys, Oq]
 by_cases hj : j = i
 ·rw [if_pos hj, if_pos hj, if_pos ⟨hj, by rw [h.len]; exact hi⟩]; rfl
 ·rw [if_neg hj, if_neg hj, if_neg (fun hh => hj hh.1)]; rfl
theorem Yp (h : StOk w s) (frm : Nat) : ∀ n j, frm + n ≤ 512 → Pt l (s.zero frm n) j = if frm ≤ j ∧ j < frm + n then Iz else Pt l s j
 | 0, j, _ => by rw [if_neg (by omega)]; rfl
 | n + 1, j, hn => by
  show Pt l ((s.zero frm n).put (frm + n) 0) j = _
  rw [lL (h.zero frm n) j (by omega), Yp h frm n j (by omega)]
  by_cases hj : j = frm + n
  ·rw [if_pos hj, if_pos (by omega)]; rfl
  ·rw [if_neg hj]
   by_cases h2 : frm ≤ j ∧ j < frm + n
   ·rw [if_pos h2, if_pos (by omega)]
   ·rw [if_neg h2, if_neg (by omega)]
theorem bV (h : StOk w s) (frm : Nat) {d : List UInt8} : ∀ n j, frm + n ≤ 512 → 64 * n ≤ d.length → Pt l (s.write frm d n) j = if frm ≤ j ∧ j < frm + n then blk d (j - frm) else Pt l s j
 | 0, j, _, _ => by rw [if_neg (by omega)]; rfl
 | n + 1, j, hn, hd => by
  have ih := bV h frm (d := d) n j (by omega) (by omega)
  have hp := lL (l := l) (a := 0) (h.write frm (d := d) n (by omega) (by omega)) (i := frm + n) j (by omega)
  show (nGet j (nSet (frm + n) (blk d n) ((s.write frm d n).put (frm + n) 0).nw)).getD (secB l (((s.write frm d n).put (frm + n) 0).m.getD j 0)) = _
  rw [vH]
  by_cases hj : j = frm + n
  ·rw [if_pos hj, if_pos (by omega), show j - frm = n by omega]; rfl
  ·rw [if_neg hj]
   show Pt l ((s.write frm d n).put (frm + n) 0) j = _
   rw [hp, if_neg hj, ih]
   by_cases h2 : frm ≤ j ∧ j < frm + n
   ·rw [if_pos h2, if_pos (by omega)]
   ·rw [if_neg h2, if_neg (by omega)]
end
theorem xN {l : List UInt8} {x : Img} (hI : IsImg l x) (hs : StOk (Ez x) (Bh x)) : Pu l (Bh x) = (Ci l x).head := by
 obtain ⟨w, ws, ht, _⟩ := Gg hI
 have hm : (Bh x).m = w.m := by unfold Bh; rw [ht]; rfl
 have hl : w.m.length = 512 := by rw [← hm]; exact hs.len
 have hsz : x.sup.size ≤ 512 := hs.size
 have hv : (Ci l x).head = Ji l w.m x.sup.size := by unfold Ci; rw [ht]; rfl
 rw [hv]
 unfold Pu Ji
 refine Zn (by rw [Ah, Ah, Ay, Ek]; show x.sup.size = _; omega) fun i h1 h2 => ?_
 have hi : i < x.sup.size := by rw [Ah, Ek] at h1; exact h1
 simp only [Jz, List.getElem_take, Vl]
 show secB l ((Bh x).m.getD i 0) = _
 rw [hm, Ae, Aa (by omega)]; rfl
theorem qY (l : List UInt8) (s : St) : (Pu l s).length = s.size := by unfold Pu; rw [Ah, Ek]
theorem Ajk {l : List UInt8} {s : St} {i : Nat} (h : i < s.size) : (Pu l s)[i]? = some (Pt l s i) := by
 unfold Pu; rw [Az, List.getElem?_range h]; rfl
end Go.Proofs.YtkpndfkpdnknkaaGreat

