import Derived.Test.YtkaiiopoilpjeaaJ13
set_option linter.unusedSimpArgs false
set_option linter.unusedVariables false
set_option maxRecDepth 10000
set_option maxHeartbeats 16000000
namespace Go.AI
section
variable {cf : Cx} {xf : ExtF} {base : Nat} {T : Tmps} {H : Heap} {QO : Tmps → Heap → Prop} {log : List FP} {g : Option (Nat × Bool)} {un : List Nat} {r : List SOper} {d : Nat} {t f : Bool}
theorem xA {T : Tmps} {x : SArg} {k : IntKind} {m : Nat} (hx : x.ev T = .int k 0) : (Ei T (some x)).map (·.getD m) = some 0 := by simpa using optN (m := m) hx (Int.le_refl 0)
theorem pZ {l : List AV} (h : l ≠ []) : Fz l = false := by
 cases l with
 | nil => exact absurd rfl h
 | cons a l => rfl
theorem Aba {site s s' : Nat} {z : AV} {x y : SArg} {n : Nat} (hx : x.ev T = .islc t true s' []) (hy : y.ev T = .int .i64 n) (h0 : 0 < n) (hm : n ≤ 68719476736) (hz : z.cells.length = s) (hzn : z.norefs = true) (hw : Af T g = some true) (hl : Av log ⟨[], [base + site], false⟩ un = true)
  (h : WO (aops cf xf base r (log ++ [⟨[], [base + site], false⟩]) (T.upd d (.slc (base + site) ((H (base + site)).gen + 1) n s 0 n .none)) (H.newRow (base + site) s (List.replicate n z))) QO) :
  WO (aops cf xf base (⟨some d, .appZ site s z x y, g, un⟩ :: r) log T H) QO :=
 Aq (v := .slc (base + site) ((H (base + site)).gen + 1) n s 0 n .none) (H' := H.newRow (base + site) s (List.replicate n z)) (fp := ⟨[], [base + site], false⟩) hw (by
  simp only [aop, hx, hy, Fb, if_pos (Xs n), Bd, Ac, Aa]
  rw [if_pos ⟨by simp [Gz]; omega, hz, hzn⟩]
  have e : Fz (List.replicate n z) = false := pZ (by intro hh; have := Ay List.length hh; simp at this; omega)
  simp only [Dc, e, Ap, Bx]
  rw [if_pos ⟨trivial, rfl, by simp [Gz]; omega⟩]
  simp) hl h
theorem wH {site s s' j gn v len : Nat} {x y : SArg} {es m : List AV} (hx : x.ev T = .slc j gn v s 0 len .none) (hy : y.ev T = .islc t f s' m) (hs : s' = s ∨ m = []) (hr : H j = ⟨gn, false, .row s es⟩) (hv : es.length = v) (he : Bq m = true) (hm : len + m.length ≤ v) (hv2 : v ≤ 68719476736)
  (hw : Af T g = some true) (hl : un = [])
  (h : ∀ fp, WO (aops cf xf base r (log ++ [fp]) (T.upd d (.slc j gn v s 0 (len + m.length) .none)) (H.upd j ⟨gn, false, .row s (es.take len ++ m ++ es.drop (len + m.length))⟩)) QO) :
  WO (aops cf xf base (⟨some d, .app site s x y, g, un⟩ :: r) log T H) QO := by
 subst hl
 by_cases hn : m = []
 ·subst hn
  have hH : H.upd j ⟨gn, false, .row s (es.take len ++ [] ++ es.drop (len + ([] : List AV).length))⟩ = H := by
   funext i
   by_cases hi : i = j
   ·subst hi
    rw [Heap.upd_same, hr]
    simp
   ·rw [Heap.upd_eq, if_neg hi]
  refine Aq (v := .slc j gn v s 0 len .none) (H' := H) (fp := ⟨[] ++ [] ++ [], [] ++ [], false⟩) hw ?_ rfl (by have := h ⟨[] ++ [] ++ [], [] ++ [], false⟩; rw [hH] at this; exact this)
  have e1 : Ch H s (.islc t f s' []) = some ([], []) := by simp [Ch, Fz]
  have e2 : Du H ([] : List AV) = some ([], H, []) := by simp [Du, Bq]
  simp only [aop, hx, hy, Gv, e1, e2, Ac, Aa]
  simp only [Dc, Fz, if_true, Aa]
  rfl
 ·obtain rfl : s' = s := hs.resolve_right hn
  refine Aq (v := .slc j gn v s' 0 (len + m.length) .none) (H' := H.upd j ⟨gn, false, .row s' (es.take len ++ m ++ es.drop (len + m.length))⟩) (fp := ⟨[] ++ [] ++ [j], [] ++ [j], false⟩) hw ?_ rfl (h _)
  have e1 : Ch H s' (.islc t f s' m) = some (m, []) := by simp [Ch]
  have e2 : Du H m = some (m, H, []) := by simp [Du, he]
  simp only [aop, hx, hy, Gv, e1, e2, Ac, Aa]
  simp only [Dc, pZ hn, Ap, Bx, Ip hr hv]
  rw [if_pos ⟨trivial, by omega, by simp [Gz]; omega⟩]
  rw [if_pos ⟨by simp; omega, by simp⟩]
  simp only [Aa, Da]
  rw [Gn hr]
theorem sE {site s s1 s2 : Nat} {x y : SArg} {t1 f1 t2 f2 : Bool} {es : List AV} (hx : x.ev T = .islc t1 f1 s1 es) (hy : y.ev T = .islc t2 f2 s2 []) (hw : Af T g = some true) (hl : un = [])
  (h : ∀ fp, WO (aops cf xf base r (log ++ [fp]) (T.upd d (.islc t1 f1 s1 es)) H) QO) :
  WO (aops cf xf base (⟨some d, .app site s x y, g, un⟩ :: r) log T H) QO := by
 subst hl
 refine Aq (v := .islc t1 f1 s1 es) (H' := H) (fp := ⟨[] ++ [] ++ [], [] ++ [], false⟩) hw ?_ rfl (h _)
 have e1 : Ch H s (.islc t2 f2 s2 []) = some ([], []) := by simp [Ch, Fz]
 have e2 : Du H ([] : List AV) = some ([], H, []) := by simp [Du, Bq]
 simp only [aop, hx, hy, Gv, e1, e2, Ac, Aa]
 simp only [Dc, Fz, if_true, Aa]
 rfl
theorem Adu {x : SArg} {s : Nat} (h : WO (aops cf xf base r (log ++ [.z]) (T.upd d (.int .i64 0)) H) QO) (hx : x.ev T = .islc t true s [] := by rfl) (hw : Af T g = some true := by rfl) (hl : Av log .z un = true := by rfl) :
  WO (aops cf xf base (⟨some d, .cap x, g, un⟩ :: r) log T H) QO := Aq (v := .int .i64 0) hw (by simp [aop, hx, rv]) hl h
end
end Go.AI
namespace Go.Proofs.Ytkaiiopoilpjeaa
open Go.AI
attribute [local irreducible] aops Bb Cj Dm aop W WO
theorem Agl (k : Nat) (hk : 1 ≤ k) (n : Nat) (hn : 0 < n) (hm : n < 100000) (H : Heap) :
  ∃ u H', CF k Hw 1 [.islc false true 0 [], .int .i64 n] H = some (u, H') ∧ (u = .slc 2 ((H 2).gen + 1) n 1 0 0 none ∧ H' 2 = ⟨(H 2).gen + 1, false, .row 1 (NL (List.replicate n 0))⟩) := by
 have e : NL (List.replicate n 0) = List.replicate n (.int .i64 (0 : Nat)) := by simp only [NL, Hg]
 have hn0 : (n : Int) - (0 - 0) = n := by omega
 rw [e]
 refine fni (by omega) Kk rfl ?_
 unfold Gy
 repeat' (first
  | refine qS ?_ | refine Adu ?_ | refine Ff (n := 0) (a := 0) (b := 0) rfl (.inr rfl) rfl rfl (xA rfl) (Ao _) (Ao _) rfl rfl ?_
  | refine Aba (n := n) rfl (by show AV.int .i64 ((n : Int) - (0 - 0)) = _; rw [hn0]) hn (by omega) rfl rfl rfl rfl ?_
  | refine Ju (a := 0) (b := 0) rfl rfl (Ev ..) rfl (xA rfl) (Ao _) (Eg _) (by simp) rfl rfl ?_ | refine qQb ?_
  | refine Ab (fun _ => ?_) (fun _ => ?_))
 exact ⟨Or.inr rfl, _, rfl, rfl, rfl⟩
theorem Afk (k : Nat) (hk : 1 ≤ k) (H : Heap) :
  ∃ u H', CF k Hw 1 [.islc false true 0 [], .int .i64 0] H = some (u, H') ∧ u = .islc false true 0 [] := by
 refine fni (by omega) Kk rfl ?_
 unfold Gy
 repeat' (first | refine qS ?_ | refine Adu ?_ | refine qQb ?_ | refine Ab (fun _ => ?_) (fun _ => ?_))
 exact ⟨Or.inr rfl, _, rfl, rfl⟩
theorem Adk (k : Nat) (hk : 1000 ≤ k) (bl fr : List Nat) (f1 f2 : Bool) (s1 s2 : Nat) (h1 : s1 = 1 ∨ bl = []) (h2 : s2 = 1 ∨ fr = []) (hl : bl.length + fr.length < 100000) :
  ∃ f' s', (s' = 1 ∨ bl ++ fr = []) ∧ FnV (CF k) Jm [.islc true false 1 [.islc false f1 s1 (NL bl), .islc false f2 s2 (NL fr)]] (.islc false f' s' (NL (bl ++ fr))) := by
 have hq1 : (0 : Int) + bl.length = bl.length := by omega
 have hq2 : (bl.length : Int) + fr.length = ((bl.length + fr.length : Nat) : Int) := by omega
 have g1 : s1 = 1 ∨ NL bl = [] := h1.imp id fun h => by rw [h]; rfl
 have g2 : s2 = 1 ∨ NL fr = [] := h2.imp id fun h => by rw [h]; rfl
 by_cases hn : bl.length + fr.length = 0
 ·have hb : bl = [] := Eb.1 (by omega)
  have hf : fr = [] := Eb.1 (by omega)
  subst hb hf
  refine ⟨true, 0, .inr rfl, ?_⟩
  refine fnk (by omega) Jl rfl ?_
  unfold Gf
  repeat' (first | refine qS ?_ | refine Ba (n := 2) rfl rfl rfl rfl ?_ | refine qQb ?_ | refine Ab (fun _ => ?_) (fun _ => ?_) | refine Ax fun _ => ?_)
  refine Ib (w_it (by omega) ?_)
  repeat' (first | refine qS ?_ | refine Dv rfl rfl (by omega) (by rfl) rfl rfl ?_ | refine Ba (n := 0) rfl rfl rfl rfl ?_ | refine qQb ?_ | refine Ab (fun _ => ?_) (fun _ => ?_) | refine Ax fun _ => ?_)
  refine w_it (by omega) ?_
  repeat' (first | refine qS ?_ | refine Dv rfl rfl (by omega) (by rfl) rfl rfl ?_ | refine Ba (n := 0) rfl rfl rfl rfl ?_ | refine qQb ?_ | refine Ab (fun _ => ?_) (fun _ => ?_) | refine Ax fun _ => ?_)
  refine w_it (by omega) ?_
  repeat' (first | refine qS ?_ | refine Og (Afk (k - 1) (by omega) _) rfl rfl rfl ?_ | refine qQb ?_ | refine Ab (fun _ => ?_) (fun _ => ?_) | refine Ax fun _ => ?_)
  rintro u H3 rfl
  repeat' (first | refine qS ?_ | refine Ba (n := 2) rfl rfl rfl rfl ?_ | refine qQb ?_ | refine Ab (fun _ => ?_) (fun _ => ?_) | refine Ax fun _ => ?_)
  refine Ib (w_it (by omega) ?_)
  repeat' (first | refine qS ?_ | refine Dv rfl rfl (by omega) (by rfl) rfl rfl ?_ | refine sE rfl rfl rfl rfl (fun _ => ?_) | refine qQb ?_ | refine Ab (fun _ => ?_) (fun _ => ?_) | refine Ax fun _ => ?_)
  refine w_it (by omega) ?_
  repeat' (first | refine qS ?_ | refine Dv rfl rfl (by omega) (by rfl) rfl rfl ?_ | refine sE rfl rfl rfl rfl (fun _ => ?_) | refine qQb ?_ | refine Ab (fun _ => ?_) (fun _ => ?_) | refine Ax fun _ => ?_)
  refine w_it (by omega) ?_
  repeat' (first | refine qQb ?_ | refine Ab (fun _ => ?_) (fun _ => ?_) | refine Ax fun _ => ?_)
  exact ⟨Or.inr rfl, _, rfl, rfl⟩
 ·refine ⟨false, 1, .inl rfl, ?_⟩
  obtain ⟨n, hnd⟩ : ∃ n, n = bl.length + fr.length := ⟨_, rfl⟩
  rw [← hnd] at hq2 hn hl
  have hzl : (NL (List.replicate n 0)).length = n := by rw [Be]; simp
  refine fnk (by omega) Jl rfl ?_
  unfold Gf
  repeat' (first | refine qS ?_ | refine Ba (n := 2) rfl rfl rfl rfl ?_ | refine qQb ?_ | refine Ab (fun _ => ?_) (fun _ => ?_) | refine Ax fun _ => ?_)
  refine Ib (w_it (by omega) ?_)
  repeat' (first
   | refine qS ?_ | refine Dv rfl rfl (by omega) (by rfl) rfl rfl ?_ | refine Ba (n := bl.length) rfl (Be _) rfl rfl ?_ | (refine Np ?_; rw [hq1]) | refine qQb ?_
   | refine Ab (fun _ => ?_) (fun _ => ?_) | refine Ax fun _ => ?_)
  refine w_it (by omega) ?_
  repeat' (first
   | refine qS ?_ | refine Dv rfl rfl (by omega) (by rfl) rfl rfl ?_ | refine Ba (n := fr.length) rfl (Be _) rfl rfl ?_ | (refine Np ?_; rw [hq2]) | refine qQb ?_
   | refine Ab (fun _ => ?_) (fun _ => ?_) | refine Ax fun _ => ?_)
  refine w_it (by omega) ?_
  repeat' (first | refine qS ?_ | refine Og (Agl (k - 1) (by omega) n (by omega) hl _) rfl rfl rfl ?_ | refine qQb ?_ | refine Ab (fun _ => ?_) (fun _ => ?_) | refine Ax fun _ => ?_)
  rintro u H3 ⟨rfl, g3⟩
  change H3 2 = ⟨1, false, .row 1 (NL (List.replicate n 0))⟩ at g3
  have hE1l : ((NL (List.replicate n 0)).take 0 ++ NL bl ++ (NL (List.replicate n 0)).drop (0 + (NL bl).length)).length = n := by
   simp only [Ar, Cf, Ea, Be, Ev]; omega
  have hlen3 : 0 + (NL bl).length + (NL fr).length = n := by rw [Be, Be]; omega
  have hfin : ∀ E : List AV, E = (NL (List.replicate n 0)).take 0 ++ NL bl ++ (NL (List.replicate n 0)).drop (0 + (NL bl).length) → E.take (0 + (NL bl).length) ++ NL fr ++ E.drop (0 + (NL bl).length + (NL fr).length) = NL (bl ++ fr) := by
   intro E hE
   have hEl : E.length = n := by rw [hE]; exact hE1l
   have hEt : E.take (NL bl).length = NL bl := by rw [hE, Ix, Dk]; exact List.take_left' rfl
   rw [Bm (by rw [hEl]; omega), Bt, Da, hEt]
   simp [NL]
  repeat' (first | refine qS ?_ | refine Ba (n := 2) rfl rfl rfl rfl ?_ | refine qQb ?_ | refine Ab (fun _ => ?_) (fun _ => ?_) | refine Ax fun _ => ?_)
  refine Ib (w_it (by omega) ?_)
  repeat' (first
   | refine qS ?_ | refine Dv rfl rfl (by omega) (by rfl) rfl rfl ?_ | refine wH rfl rfl g1 (by exact g3) hzl (Lb bl) (by rw [Be]; omega) (by omega) rfl rfl (fun _ => ?_)
   | refine qQb ?_ | refine Ab (fun _ => ?_) (fun _ => ?_) | refine Ax fun _ => ?_)
  refine w_it (by omega) ?_
  repeat' (first
   | refine qS ?_ | refine Dv rfl rfl (by omega) (by rfl) rfl rfl ?_ | refine wH rfl rfl g2 rfl hE1l (Lb fr) (by rw [hlen3]; omega) (by omega) rfl rfl (fun _ => ?_)
   | refine qQb ?_ | refine Ab (fun _ => ?_) (fun _ => ?_) | refine Ax fun _ => ?_)
  refine w_it (by omega) ?_
  repeat' (first | refine qQb ?_ | refine Ab (fun _ => ?_) (fun _ => ?_) | refine Ax fun _ => ?_)
  refine ⟨Or.inr rfl, .slc 2 1 n 1 0 (0 + (NL bl).length + (NL fr).length) none, rfl, ?_⟩
  rw [hlen3]
  refine Ge (out := true) (l := bl ++ fr) (ro := false) ?_ (by simp; omega) 4
  rw [← hfin _ rfl, hlen3]
  rfl
end Go.Proofs.Ytkaiiopoilpjeaa

