import Derived.Test.YtkpndfkpdnknkaaGreatJ13
set_option linter.unusedSimpArgs false
set_option linter.unusedVariables false
set_option maxRecDepth 10000
set_option maxHeartbeats 16000000
namespace Go.AI
section
variable {cf : Dh} {xf : ExtF} {base : Nat} {T : Tmps} {H : Heap} {QO : Tmps → Heap → Prop} {log : List FP} {g : Option (Nat × Bool)} {un : List Nat} {r : List SOper} {d : Nat} {t f : Bool}
theorem Avr {T : Tmps} {x : SArg} {k : IntKind} {m : Nat} (hx : x.ev T = .int k 0) : (Ft T (some x)).map (·.getD m) = some 0 := by simpa using optN (m := m) hx (Int.le_refl 0)
theorem Afn {l : List AV} (h : l ≠ []) : Ix l = false := by
 cases l with
 | nil => exact absurd rfl h
 | cons a l => rfl
theorem Arh {site s s' : Nat} {z : AV} {x y : SArg} {n : Nat} (hx : x.ev T = .islc t true s' []) (hy : y.ev T = .int .i64 n) (h0 : 0 < n) (hm : n ≤ 68719476736) (hz : z.cells.length = s) (hzn : z.norefs = true) (hw : Ai T g = some true) (hl : Bm log ⟨[], [base + site], false⟩ un = true)
  (h : WO (aops cf xf base r (log ++ [⟨[], [base + site], false⟩]) (T.upd d (.slc (base + site) ((H (base + site)).gen + 1) n s 0 n .none)) (H.newRow (base + site) s (List.replicate n z))) QO) :
  WO (aops cf xf base (⟨some d, .appZ site s z x y, g, un⟩ :: r) log T H) QO :=
 Bg (v := .slc (base + site) ((H (base + site)).gen + 1) n s 0 n .none) (H' := H.newRow (base + site) s (List.replicate n z)) (fp := ⟨[], [base + site], false⟩) hw (by
  simp only [aop, hx, hy, Fy, if_pos (Vk n), Ax, Ad, Ac]
  rw [if_pos ⟨by simp [Iv]; omega, hz, hzn⟩]
  have e : Ix (List.replicate n z) = false := Afn (by intro hh; have := Bk List.length hh; simp at this; omega)
  simp only [Dw, e, Bd, Cp]
  rw [if_pos ⟨trivial, rfl, by simp [Iv]; omega⟩]
  simp) hl h
theorem Atw {site s s' j gn v len : Nat} {x y : SArg} {es m : List AV} (hx : x.ev T = .slc j gn v s 0 len .none) (hy : y.ev T = .islc t f s' m) (hs : s' = s ∨ m = []) (hr : H j = ⟨gn, false, .row s es⟩) (hv : es.length = v) (he : Cf m = true) (hm : len + m.length ≤ v) (hv2 : v ≤ 68719476736)
  (hw : Ai T g = some true) (hl : un = [])
  (h : ∀ fp, WO (aops cf xf base r (log ++ [fp]) (T.upd d (.slc j gn v s 0 (len + m.length) .none)) (H.upd j ⟨gn, false, .row s (es.take len ++ m ++ es.drop (len + m.length))⟩)) QO) :
  WO (aops cf xf base (⟨some d, .app site s x y, g, un⟩ :: r) log T H) QO := by
 subst hl
 by_cases hn : m = []
 ·subst hn
  have hH : H.upd j ⟨gn, false, .row s (es.take len ++ [] ++ es.drop (len + ([] : List AV).length))⟩ = H := by
   funext i
   by_cases hi : i = j
   ·subst hi
    rw [Heap.upd_same, hr]
    simp
   ·rw [Heap.upd_eq, if_neg hi]
  refine Bg (v := .slc j gn v s 0 len .none) (H' := H) (fp := ⟨[] ++ [] ++ [], [] ++ [], false⟩) hw ?_ rfl (by have := h ⟨[] ++ [] ++ [], [] ++ [], false⟩; rw [hH] at this; exact this)
  have e1 : Cy H s (.islc t f s' []) = some ([], []) := by simp [Cy, Ix]
  have e2 : Fp H ([] : List AV) = some ([], H, []) := by simp [Fp, Cf]
  simp only [aop, hx, hy, Ka, e1, e2, Ad, Ac]
  simp only [Dw, Ix, if_true, Ac]
  rfl
 ·obtain rfl : s' = s := hs.resolve_right hn
  refine Bg (v := .slc j gn v s' 0 (len + m.length) .none) (H' := H.upd j ⟨gn, false, .row s' (es.take len ++ m ++ es.drop (len + m.length))⟩) (fp := ⟨[] ++ [] ++ [j], [] ++ [j], false⟩) hw ?_ rfl (h _)
  have e1 : Cy H s' (.islc t f s' m) = some (m, []) := by simp [Cy]
  have e2 : Fp H m = some (m, H, []) := by simp [Fp, he]
  simp only [aop, hx, hy, Ka, e1, e2, Ad, Ac]
  simp only [Dw, Afn hn, Bd, Cp, Kp hr hv]
  rw [if_pos ⟨trivial, by omega, by simp [Iv]; omega⟩]
  rw [if_pos ⟨by simp; omega, by simp⟩]
  simp only [Ac, Ct]
  rw [Hl hr]
theorem Aqp {x : SArg} {s : Nat} (h : WO (aops cf xf base r (log ++ [.z]) (T.upd d (.int .i64 0)) H) QO) (hx : x.ev T = .islc t true s [] := by rfl) (hw : Ai T g = some true := by rfl) (hl : Bm log .z un = true := by rfl) :
  WO (aops cf xf base (⟨some d, .cap x, g, un⟩ :: r) log T H) QO := Bg (v := .int .i64 0) hw (by simp [aop, hx, rv]) hl h
end
end Go.AI
namespace Go.Proofs.YtkpndfkpdnknkaaGreat
open Go.AI
attribute [local irreducible] aops Bp Cs Df aop W WO
end Go.Proofs.YtkpndfkpdnknkaaGreat

