import Derived.Test.YtkaiiopoilpjeaaGreatMJ8
set_option linter.unusedSimpArgs false
set_option linter.unusedVariables false
set_option maxRecDepth 10000
namespace Go.Proofs.YtkaiiopoilpjeaaGreat
open Go.AI
theorem vJ (j : Nat) : ∀ l : List (Nat × List UInt8), j ∉ l.map Prod.fst → nGet j l = none := fun l h => by
 cases hg : nGet j l with
 | none => rfl
 | some d => exact absurd ((gJ j l).1 (by rw [hg]; rfl)) h
theorem Abn (k j : Nat) : ∀ l : List (Nat × List UInt8), (l.map Prod.fst).Nodup → nGet j (nDel k l) = if j = k then none else nGet j l
 | [], _ => by unfold nDel nGet; split <;> rfl
 | (a, u) :: r, h => by
  rw [Aw, Gu] at h
  unfold nDel
  by_cases hk : k = a
  ·rw [if_pos hk]
   by_cases hj : j = k
   ·rw [if_pos hj]
    exact vJ j r (by rw [hj, hk]; exact h.1)
   ·rw [if_neg hj]
    conv => rhs; unfold nGet
    rw [if_neg (by omega)]
  ·rw [if_neg hk]
   have ih := Abn k j r h.2
   unfold nGet
   by_cases hj : j = a
   ·rw [if_pos hj, if_neg (by omega), if_pos hj]
   ·rw [if_neg hj, ih, if_neg hj]
def nW : List UInt8 := List.replicate 64 0
section
variable {l : List UInt8} {w : WS} {s : St}
theorem Anb (h : StOk w s) {i a : Nat} (j : Nat) (hi : i < 512) : Yl l (s.put i a) j = if j = i then secB l a else Yl l s j := by
 show (nGet j (nDel i s.nw)).getD (secB l ((s.m.set i a).getD j 0)) = _
 rw [Abn i j s.nw h.keys, Qw]
 by_cases hj : j = i
 ·rw [if_pos hj, if_pos hj, if_pos ⟨hj, by rw [h.len]; exact hi⟩]; rfl
 ·rw [if_neg hj, if_neg hj, if_neg (fun hh => hj hh.1)]; rfl
theorem rC (h : StOk w s) (frm : Nat) : ∀ n j, frm + n ≤ 512 → Yl l (s.zero frm n) j = if frm ≤ j ∧ j < frm + n then nW else Yl l s j
 | 0, j, _ => by rw [if_neg (by omega)]; rfl
 | n + 1, j, hn => by
  show Yl l ((s.zero frm n).put (frm + n) 0) j = _
  rw [Anb (h.zero frm n) j (by omega), rC h frm n j (by omega)]
  by_cases hj : j = frm + n
  ·rw [if_pos hj, if_pos (by omega)]; rfl
  ·rw [if_neg hj]
   by_cases h2 : frm ≤ j ∧ j < frm + n
   ·rw [if_pos h2, if_pos (by omega)]
   ·rw [if_neg h2, if_neg (by omega)]
end
theorem Anj {l : List UInt8} {x : Img} (hI : IsImg l x) (hs : StOk (Ee x) (Dh x)) : Sc l (Dh x) = (Gq l x).head := by
 obtain ⟨w, ws, ht, _⟩ := Hm hI
 have hm : (Dh x).m = w.m := by unfold Dh; rw [ht]; rfl
 have hl : w.m.length = 512 := by rw [← hm]; exact hs.len
 have hsz : x.sup.size ≤ 512 := hs.size
 have hv : (Gq l x).head = Nw l w.m x.sup.size := by unfold Gq; rw [ht]; rfl
 rw [hv]
 unfold Sc Nw
 refine Yg (by rw [Ah, Ah, Bc, Gm]; show x.sup.size = _; omega) fun i h1 h2 => ?_
 have hi : i < x.sup.size := by rw [Ah, Gm] at h1; exact h1
 simp only [Li, List.getElem_take, fH]
 show secB l ((Dh x).m.getD i 0) = _
 rw [hm, Af, Aa (by omega)]; rfl
theorem Agz (l : List UInt8) (s : St) : (Sc l s).length = s.size := by unfold Sc; rw [Ah, Gm]
theorem Afz {l : List UInt8} {s : St} {i : Nat} (h : i < s.size) : (Sc l s)[i]? = some (Yl l s i) := by
 unfold Sc; rw [Bp, List.getElem?_range h]; rfl
end Go.Proofs.YtkaiiopoilpjeaaGreat

