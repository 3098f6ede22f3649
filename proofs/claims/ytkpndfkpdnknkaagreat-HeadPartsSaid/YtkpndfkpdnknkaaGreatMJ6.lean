/- Lemmas. -/
import Derived.Test.YtkpndfkpdnknkaaGreatMJ5
import Derived.Test.YtkpndfkpdnknkaaGreatMF2
set_option linter.unusedSimpArgs false
set_option linter.unusedVariables false
set_option maxRecDepth 10000
set_option maxHeartbeats 16000000
namespace Go.AI
section
variable {cf : Dh} {xf : ExtF} {base : Nat} {T : Tmps} {H : Heap} {QO : Tmps → Heap → Prop} {log : List FP} {g : Option (Nat × Bool)} {un : List Nat} {r : List SOper} {d : Nat}
theorem Rc {n s : Nat} {tt : Bool} {cs : List AV} {x i : SArg} {kk : IntKind} {m : Int} (hx : x.ev T = .iptr tt cs) (hi : i.ev T = .int kk m) (h0 : 0 ≤ m) (h1 : m < n) (hc : m.toNat * s ≤ cs.length) (hw : Ai T g = some true) (hl : Bm log .z un = true)
  (h : WO (aops cf xf base r (log ++ [.z]) (T.upd d (.iptr tt (cs.drop (m.toNat * s)))) H) QO) : WO (aops cf xf base (⟨some d, .iaddrA n s x i, g, un⟩ :: r) log T H) QO :=
 Bg (v := .iptr tt (cs.drop (m.toNat * s))) hw (by
  have : ¬ n ≤ m.toNat := by omega
  simp only [aop, hi, Fy, if_pos h0, Ad, Ac, if_neg this, hx]
  rw [if_pos hc]; rfl) hl h
end
end Go.AI
namespace Go.Proofs.YtkpndfkpdnknkaaGreat
open Go.AI
def Aia : Option Nat → Nat → AV
 | some a, _ => .tup [.int .i64 a, .bool true]
 | none, b => .tup [.int .i64 b, .bool false]
theorem Apg (k : Nat) (hk : 1000 ≤ k) : FnV (CF k) Tj [.int .i64 (3 : Nat)] (.int .i64 (512 : Nat)) := Ms hk fun j => by kernel_rfl
attribute [local irreducible] aops Bp Cs Df aop W WO
theorem sZ (k : Nat) (hk : 1 ≤ k) (b : Nat) : FnV (CF k) Gv [nav b] (.bool (decide (b ≠ 0))) := by
 unfold nav
 refine fnk (by omega) Xr rfl ?_
 unfold Mh
 repeat' (first | refine qQb ?_ | refine Af (fun _ => ?_) (fun _ => ?_))
 all_goals
  refine ⟨Or.inr rfl, _, rfl, ?_⟩
  rename_i h
  simp only [cmpP] at h
  show AV.bool _ = AV.bool _
  congr 1
  first
   | exact (An (by omega)).symm
   | exact (Ba (by omega)).symm
theorem Auh (k : Nat) (hk : 1000040 ≤ k) {img fr : AV} {n : Nat} {mt mf t0 : Bool} {f0 : Bool} {m m0 w0 w1 w2 i0 i1 i2 : List Nat} {bad : Bool} {ot : Bool} {q0 q1 q2 : AV} (hm : m.length = 512) (hm0 : m0.length = 512) (hw : w0.length = 64) (place : Nat) (hp : place < 64) :
  FnV (CF k) Kb [.iptr true [img, .int .i64 n, .iptr ot [q0, q1, .islc t0 f0 1 (NL m0), q2, .bool bad], .islc mt mf 1 (NL m), .islc true false 1 (NL w0), .islc true false 1 (NL w1), .islc true false 1 (NL w2), .islc true false 1 (NL i0), .islc true false 1 (NL i1), .islc true false 1 (NL i2), fr], .int .i64 (0 : Nat), .int .i64 place] (Aia (Fq m m0 w0 0 place) (w0.getD place 0)) := by
 have hun := Afr (k - 1) (by omega)
 have e0 : ((0 : Nat) : Int) + 1 = ((1 : Nat) : Int) := rfl
 have e1 : (place : Int) * ((8 : Nat) : Int) = ((8 * place : Nat) : Int) := by omega
 have e2 : ((8 * place : Nat) : Int) + ((8 : Nat) : Int) = ((8 * place + 8 : Nat) : Int) := by omega
 have e3 : 8 * place + 8 - 8 * place = 8 := by omega
 have hpm : ∀ q : List Nat, ((NL q).drop (8 * place)).take (8 * place + 8 - 8 * place) = NL (part q 0 place) := by
  intro q
  rw [e3]
  unfold NL part
  rw [Gd, Gt]
 have hlm : ∀ q : List Nat, q.length = 512 → (part q 0 place).length = 8 := by
  intro q hq
  unfold part
  rw [Ay, Bl, hq]
  show min 8 (512 - 8 * place) = 8
  omega
 have hc := Jb (k - 1) (by omega) mt (mf && decide (8 * place + 8 = 512)) (part m 0 place) Gv [] (fun b => decide (b ≠ 0)) (by rw [hlm m hm]; omega) (fun _ => rfl) (fun _ _ => rfl) (fun i hi => sZ (k - 3) (by omega) _)
 have heq := Acd (k - 1) (by omega) mt (mf && decide (8 * place + 8 = 512)) t0 (f0 && decide (8 * place + 8 = 512)) (part m 0 place) (part m0 0 place) (by rw [hlm m hm]; omega) (by rw [hlm m hm, hlm m0 hm0])
 have hz : ∀ (fn : AV) (H : Heap), fz false 6 H fn = fn → [AV.islc mt (mf && decide (8 * place + 8 = 512)) 1 (((NL m).drop (8 * place)).take (8 * place + 8 - 8 * place)), fn].map (fz false 6 H) = [.islc mt (mf && decide (8 * place + 8 = 512)) 1 (NL (part m 0 place)), fn] := by
  intro fn H hfn
  rw [hpm m]
  show [_, fz false 6 H fn] = _
  rw [hfn]; rfl
 have hz2 : ∀ (H : Heap), [AV.islc mt (mf && decide (8 * place + 8 = 512)) 1 (((NL m).drop (8 * place)).take (8 * place + 8 - 8 * place)), AV.islc t0 (f0 && decide (8 * place + 8 = 512)) 1 (((NL m0).drop (8 * place)).take (8 * place + 8 - 8 * place))].map (fz false 6 H) = [.islc mt (mf && decide (8 * place + 8 = 512)) 1 (NL (part m 0 place)), .islc t0 (f0 && decide (8 * place + 8 = 512)) 1 (NL (part m0 0 place))] := by
  intro H
  rw [hpm m, hpm m0]; rfl
 have hml : (NL m).length = 512 := by rw [Cj, hm]
 have hml0 : (NL m0).length = 512 := by rw [Cj, hm0]
 have hwe : (NL w0)[(place : Int).toNat]? = some (.int .i64 (w0.getD place 0 : Nat)) := by
  rw [Ax]
  unfold NL
  rw [Az, Aa (by omega), Ae, Aa (by omega)]; rfl
 refine fnk (by omega) Mi rfl ?_
 unfold Jf Fq
 cases hany : (part m 0 place).any (fun b => decide (b ≠ 0)) with
 | false =>
  rw [hany] at hc
  rw [if_pos rfl]
  repeat' (first
   | refine qS ?_ | (rw [e0]) | refine Ab hun ?_ | (rw [e1]) | (rw [e2]) | refine Em ?_
   | refine Dx (n := 512) (a := 8 * place) (b := 8 * place + 8) rfl (.inl rfl) hml (Fi rfl) (Fi rfl) (by omega) (by omega) rfl rfl ?_
   | refine Ab hc ?_ rfl (by exact hz _ _ rfl) | refine qQba ?_ | fail)
  exact ⟨Or.inr rfl, _, rfl, rfl⟩
 | true =>
  rw [hany] at hc
  rw [if_neg (by decide)]
  by_cases hpe : part m 0 place = part m0 0 place
  ·rw [An hpe] at heq
   rw [if_pos hpe]
   repeat' (first
    | refine qS ?_ | (rw [e0]) | refine Ab hun ?_ | (rw [e1]) | (rw [e2]) | refine Em ?_
    | refine Dx (n := 512) (a := 8 * place) (b := 8 * place + 8) rfl (.inl rfl) hml (Fi rfl) (Fi rfl) (by omega) (by omega) rfl rfl ?_
    | refine Ab hc ?_ rfl (by exact hz _ _ rfl) | refine Rc rfl rfl (by decide) (by decide) (by exact Be rfl) rfl rfl ?_
    | refine Cz rfl rfl (by omega) hwe rfl rfl ?_
    | refine Dx (n := 512) (a := 8 * place) (b := 8 * place + 8) rfl (.inl rfl) hml0 (Fi rfl) (Fi rfl) (by omega) (by omega) rfl rfl ?_
    | refine Ab heq ?_ rfl (by exact hz2 _) | refine qQba ?_ | fail)
   exact ⟨Or.inr rfl, _, rfl, rfl⟩
  ·rw [Ba hpe] at heq
   rw [if_neg hpe]
   repeat' (first
    | refine qS ?_ | (rw [e0]) | refine Ab hun ?_ | (rw [e1]) | (rw [e2]) | refine Em ?_
    | refine Dx (n := 512) (a := 8 * place) (b := 8 * place + 8) rfl (.inl rfl) hml (Fi rfl) (Fi rfl) (by omega) (by omega) rfl rfl ?_
    | refine Ab hc ?_ rfl (by exact hz _ _ rfl) | refine Rc rfl rfl (by decide) (by decide) (by exact Be rfl) rfl rfl ?_
    | refine Cz rfl rfl (by omega) hwe rfl rfl ?_
    | refine Dx (n := 512) (a := 8 * place) (b := 8 * place + 8) rfl (.inl rfl) hml0 (Fi rfl) (Fi rfl) (by omega) (by omega) rfl rfl ?_
    | refine Ab heq ?_ rfl (by exact hz2 _) | refine qQba ?_ | fail)
   exact ⟨Or.inr rfl, _, rfl, rfl⟩
theorem Aut (k : Nat) (hk : 1000040 ≤ k) {img fr : AV} {n : Nat} {mt mf t0 : Bool} {f0 : Bool} {m m0 w0 w1 w2 i0 i1 i2 : List Nat} {bad : Bool} {ot : Bool} {q0 q1 q2 : AV} (hm : m.length = 512) (hm0 : m0.length = 512) (hw : w1.length = 8) (place : Nat) (hp : place < 8) :
  FnV (CF k) Kb [.iptr true [img, .int .i64 n, .iptr ot [q0, q1, .islc t0 f0 1 (NL m0), q2, .bool bad], .islc mt mf 1 (NL m), .islc true false 1 (NL w0), .islc true false 1 (NL w1), .islc true false 1 (NL w2), .islc true false 1 (NL i0), .islc true false 1 (NL i1), .islc true false 1 (NL i2), fr], .int .i64 (1 : Nat), .int .i64 place] (Aia (Fq m m0 w1 1 place) (w1.getD place 0)) := by
 have hun := Agn (k - 1) (by omega)
 have e0 : ((1 : Nat) : Int) + 1 = ((2 : Nat) : Int) := rfl
 have e1 : (place : Int) * ((64 : Nat) : Int) = ((64 * place : Nat) : Int) := by omega
 have e2 : ((64 * place : Nat) : Int) + ((64 : Nat) : Int) = ((64 * place + 64 : Nat) : Int) := by omega
 have e3 : 64 * place + 64 - 64 * place = 64 := by omega
 have hpm : ∀ q : List Nat, ((NL q).drop (64 * place)).take (64 * place + 64 - 64 * place) = NL (part q 1 place) := by
  intro q
  rw [e3]
  unfold NL part
  rw [Gd, Gt]
 have hlm : ∀ q : List Nat, q.length = 512 → (part q 1 place).length = 64 := by
  intro q hq
  unfold part
  rw [Ay, Bl, hq]
  show min 64 (512 - 64 * place) = 64
  omega
 have hc := Jb (k - 1) (by omega) mt (mf && decide (64 * place + 64 = 512)) (part m 1 place) Gv [] (fun b => decide (b ≠ 0)) (by rw [hlm m hm]; omega) (fun _ => rfl) (fun _ _ => rfl) (fun i hi => sZ (k - 3) (by omega) _)
 have heq := Acd (k - 1) (by omega) mt (mf && decide (64 * place + 64 = 512)) t0 (f0 && decide (64 * place + 64 = 512)) (part m 1 place) (part m0 1 place) (by rw [hlm m hm]; omega) (by rw [hlm m hm, hlm m0 hm0])
 have hz : ∀ (fn : AV) (H : Heap), fz false 6 H fn = fn → [AV.islc mt (mf && decide (64 * place + 64 = 512)) 1 (((NL m).drop (64 * place)).take (64 * place + 64 - 64 * place)), fn].map (fz false 6 H) = [.islc mt (mf && decide (64 * place + 64 = 512)) 1 (NL (part m 1 place)), fn] := by
  intro fn H hfn
  rw [hpm m]
  show [_, fz false 6 H fn] = _
  rw [hfn]; rfl
 have hz2 : ∀ (H : Heap), [AV.islc mt (mf && decide (64 * place + 64 = 512)) 1 (((NL m).drop (64 * place)).take (64 * place + 64 - 64 * place)), AV.islc t0 (f0 && decide (64 * place + 64 = 512)) 1 (((NL m0).drop (64 * place)).take (64 * place + 64 - 64 * place))].map (fz false 6 H) = [.islc mt (mf && decide (64 * place + 64 = 512)) 1 (NL (part m 1 place)), .islc t0 (f0 && decide (64 * place + 64 = 512)) 1 (NL (part m0 1 place))] := by
  intro H
  rw [hpm m, hpm m0]; rfl
 have hml : (NL m).length = 512 := by rw [Cj, hm]
 have hml0 : (NL m0).length = 512 := by rw [Cj, hm0]
 have hwe : (NL w1)[(place : Int).toNat]? = some (.int .i64 (w1.getD place 0 : Nat)) := by
  rw [Ax]
  unfold NL
  rw [Az, Aa (by omega), Ae, Aa (by omega)]; rfl
 refine fnk (by omega) Mi rfl ?_
 unfold Jf Fq
 cases hany : (part m 1 place).any (fun b => decide (b ≠ 0)) with
 | false =>
  rw [hany] at hc
  rw [if_pos rfl]
  repeat' (first
   | refine qS ?_ | (rw [e0]) | refine Ab hun ?_ | (rw [e1]) | (rw [e2]) | refine Em ?_
   | refine Dx (n := 512) (a := 64 * place) (b := 64 * place + 64) rfl (.inl rfl) hml (Fi rfl) (Fi rfl) (by omega) (by omega) rfl rfl ?_
   | refine Ab hc ?_ rfl (by exact hz _ _ rfl) | refine qQba ?_ | fail)
  exact ⟨Or.inr rfl, _, rfl, rfl⟩
 | true =>
  rw [hany] at hc
  rw [if_neg (by decide)]
  by_cases hpe : part m 1 place = part m0 1 place
  ·rw [An hpe] at heq
   rw [if_pos hpe]
   repeat' (first
    | refine qS ?_ | (rw [e0]) | refine Ab hun ?_ | (rw [e1]) | (rw [e2]) | refine Em ?_
    | refine Dx (n := 512) (a := 64 * place) (b := 64 * place + 64) rfl (.inl rfl) hml (Fi rfl) (Fi rfl) (by omega) (by omega) rfl rfl ?_
    | refine Ab hc ?_ rfl (by exact hz _ _ rfl) | refine Rc rfl rfl (by decide) (by decide) (by exact Be rfl) rfl rfl ?_
    | refine Cz rfl rfl (by omega) hwe rfl rfl ?_
    | refine Dx (n := 512) (a := 64 * place) (b := 64 * place + 64) rfl (.inl rfl) hml0 (Fi rfl) (Fi rfl) (by omega) (by omega) rfl rfl ?_
    | refine Ab heq ?_ rfl (by exact hz2 _) | refine qQba ?_ | fail)
   exact ⟨Or.inr rfl, _, rfl, rfl⟩
  ·rw [Ba hpe] at heq
   rw [if_neg hpe]
   repeat' (first
    | refine qS ?_ | (rw [e0]) | refine Ab hun ?_ | (rw [e1]) | (rw [e2]) | refine Em ?_
    | refine Dx (n := 512) (a := 64 * place) (b := 64 * place + 64) rfl (.inl rfl) hml (Fi rfl) (Fi rfl) (by omega) (by omega) rfl rfl ?_
    | refine Ab hc ?_ rfl (by exact hz _ _ rfl) | refine Rc rfl rfl (by decide) (by decide) (by exact Be rfl) rfl rfl ?_
    | refine Cz rfl rfl (by omega) hwe rfl rfl ?_
    | refine Dx (n := 512) (a := 64 * place) (b := 64 * place + 64) rfl (.inl rfl) hml0 (Fi rfl) (Fi rfl) (by omega) (by omega) rfl rfl ?_
    | refine Ab heq ?_ rfl (by exact hz2 _) | refine qQba ?_ | fail)
   exact ⟨Or.inr rfl, _, rfl, rfl⟩
theorem Asz (k : Nat) (hk : 1000040 ≤ k) {img fr : AV} {n : Nat} {mt mf t0 : Bool} {f0 : Bool} {m m0 w0 w1 w2 i0 i1 i2 : List Nat} {bad : Bool} {ot : Bool} {q0 q1 q2 : AV} (hm : m.length = 512) (hm0 : m0.length = 512) (hw : w2.length = 1) (place : Nat) (hp : place < 1) :
  FnV (CF k) Kb [.iptr true [img, .int .i64 n, .iptr ot [q0, q1, .islc t0 f0 1 (NL m0), q2, .bool bad], .islc mt mf 1 (NL m), .islc true false 1 (NL w0), .islc true false 1 (NL w1), .islc true false 1 (NL w2), .islc true false 1 (NL i0), .islc true false 1 (NL i1), .islc true false 1 (NL i2), fr], .int .i64 (2 : Nat), .int .i64 place] (Aia (Fq m m0 w2 2 place) (w2.getD place 0)) := by
 have hun := Apg (k - 1) (by omega)
 have e0 : ((2 : Nat) : Int) + 1 = ((3 : Nat) : Int) := rfl
 have e1 : (place : Int) * ((512 : Nat) : Int) = ((512 * place : Nat) : Int) := by omega
 have e2 : ((512 * place : Nat) : Int) + ((512 : Nat) : Int) = ((512 * place + 512 : Nat) : Int) := by omega
 have e3 : 512 * place + 512 - 512 * place = 512 := by omega
 have hpm : ∀ q : List Nat, ((NL q).drop (512 * place)).take (512 * place + 512 - 512 * place) = NL (part q 2 place) := by
  intro q
  rw [e3]
  unfold NL part
  rw [Gd, Gt]
 have hlm : ∀ q : List Nat, q.length = 512 → (part q 2 place).length = 512 := by
  intro q hq
  unfold part
  rw [Ay, Bl, hq]
  show min 512 (512 - 512 * place) = 512
  omega
 have hc := Jb (k - 1) (by omega) mt (mf && decide (512 * place + 512 = 512)) (part m 2 place) Gv [] (fun b => decide (b ≠ 0)) (by rw [hlm m hm]; omega) (fun _ => rfl) (fun _ _ => rfl) (fun i hi => sZ (k - 3) (by omega) _)
 have heq := Acd (k - 1) (by omega) mt (mf && decide (512 * place + 512 = 512)) t0 (f0 && decide (512 * place + 512 = 512)) (part m 2 place) (part m0 2 place) (by rw [hlm m hm]; omega) (by rw [hlm m hm, hlm m0 hm0])
 have hz : ∀ (fn : AV) (H : Heap), fz false 6 H fn = fn → [AV.islc mt (mf && decide (512 * place + 512 = 512)) 1 (((NL m).drop (512 * place)).take (512 * place + 512 - 512 * place)), fn].map (fz false 6 H) = [.islc mt (mf && decide (512 * place + 512 = 512)) 1 (NL (part m 2 place)), fn] := by
  intro fn H hfn
  rw [hpm m]
  show [_, fz false 6 H fn] = _
  rw [hfn]; rfl
 have hz2 : ∀ (H : Heap), [AV.islc mt (mf && decide (512 * place + 512 = 512)) 1 (((NL m).drop (512 * place)).take (512 * place + 512 - 512 * place)), AV.islc t0 (f0 && decide (512 * place + 512 = 512)) 1 (((NL m0).drop (512 * place)).take (512 * place + 512 - 512 * place))].map (fz false 6 H) = [.islc mt (mf && decide (512 * place + 512 = 512)) 1 (NL (part m 2 place)), .islc t0 (f0 && decide (512 * place + 512 = 512)) 1 (NL (part m0 2 place))] := by
  intro H
  rw [hpm m, hpm m0]; rfl
 have hml : (NL m).length = 512 := by rw [Cj, hm]
 have hml0 : (NL m0).length = 512 := by rw [Cj, hm0]
 have hwe : (NL w2)[(place : Int).toNat]? = some (.int .i64 (w2.getD place 0 : Nat)) := by
  rw [Ax]
  unfold NL
  rw [Az, Aa (by omega), Ae, Aa (by omega)]; rfl
 refine fnk (by omega) Mi rfl ?_
 unfold Jf Fq
 cases hany : (part m 2 place).any (fun b => decide (b ≠ 0)) with
 | false =>
  rw [hany] at hc
  rw [if_pos rfl]
  repeat' (first
   | refine qS ?_ | (rw [e0]) | refine Ab hun ?_ | (rw [e1]) | (rw [e2]) | refine Em ?_
   | refine Dx (n := 512) (a := 512 * place) (b := 512 * place + 512) rfl (.inl rfl) hml (Fi rfl) (Fi rfl) (by omega) (by omega) rfl rfl ?_
   | refine Ab hc ?_ rfl (by exact hz _ _ rfl) | refine qQba ?_ | fail)
  exact ⟨Or.inr rfl, _, rfl, rfl⟩
 | true =>
  rw [hany] at hc
  rw [if_neg (by decide)]
  by_cases hpe : part m 2 place = part m0 2 place
  ·rw [An hpe] at heq
   rw [if_pos hpe]
   repeat' (first
    | refine qS ?_ | (rw [e0]) | refine Ab hun ?_ | (rw [e1]) | (rw [e2]) | refine Em ?_
    | refine Dx (n := 512) (a := 512 * place) (b := 512 * place + 512) rfl (.inl rfl) hml (Fi rfl) (Fi rfl) (by omega) (by omega) rfl rfl ?_
    | refine Ab hc ?_ rfl (by exact hz _ _ rfl) | refine Rc rfl rfl (by decide) (by decide) (by exact Be rfl) rfl rfl ?_
    | refine Cz rfl rfl (by omega) hwe rfl rfl ?_
    | refine Dx (n := 512) (a := 512 * place) (b := 512 * place + 512) rfl (.inl rfl) hml0 (Fi rfl) (Fi rfl) (by omega) (by omega) rfl rfl ?_
    | refine Ab heq ?_ rfl (by exact hz2 _) | refine qQba ?_ | fail)
   exact ⟨Or.inr rfl, _, rfl, rfl⟩
  ·rw [Ba hpe] at heq
   rw [if_neg hpe]
   repeat' (first
    | refine qS ?_ | (rw [e0]) | refine Ab hun ?_ | (rw [e1]) | (rw [e2]) | refine Em ?_
    | refine Dx (n := 512) (a := 512 * place) (b := 512 * place + 512) rfl (.inl rfl) hml (Fi rfl) (Fi rfl) (by omega) (by omega) rfl rfl ?_
    | refine Ab hc ?_ rfl (by exact hz _ _ rfl) | refine Rc rfl rfl (by decide) (by decide) (by exact Be rfl) rfl rfl ?_
    | refine Cz rfl rfl (by omega) hwe rfl rfl ?_
    | refine Dx (n := 512) (a := 512 * place) (b := 512 * place + 512) rfl (.inl rfl) hml0 (Fi rfl) (Fi rfl) (by omega) (by omega) rfl rfl ?_
    | refine Ab heq ?_ rfl (by exact hz2 _) | refine qQba ?_ | fail)
   exact ⟨Or.inr rfl, _, rfl, rfl⟩
end Go.Proofs.YtkpndfkpdnknkaaGreat
set_option maxRecDepth 10000
set_option maxHeartbeats 16000000
namespace Go.AI
section
variable {cf : Dh} {xf : ExtF} {base : Nat} {T : Tmps} {H : Heap} {QO : Tmps → Heap → Prop} {log : List FP} {g : Option (Nat × Bool)} {un : List Nat} {r : List SOper} {d : Nat} {t f : Bool}
theorem uM {site j2 g2 s' s n : Nat} {ro : Bool} {x y : SArg} {m : List AV} {cap2 : Option Nat} (hx : x.ev T = .islc t true s' []) (hy : y.ev T = .slc j2 g2 n s 0 n cap2) (h2 : H j2 = ⟨g2, ro, .row s m⟩) (hn : m.length = n) (hm0 : Ix m = false) (he : Cf m = true) (hb : n ≤ 68719476736)
  (hw : Ai T g = some true) (hl : un = [])
  (h : WO (aops cf xf base r (log ++ [⟨[j2], [base + site], false⟩]) (T.upd d (.slc (base + site) ((H (base + site)).gen + 1) n s 0 n .none)) (H.newRow (base + site) s m)) QO) :
  WO (aops cf xf base (⟨some d, .app site s x y, g, un⟩ :: r) log T H) QO := by
 subst hl
 subst hn
 refine Bg (v := .slc (base + site) ((H (base + site)).gen + 1) m.length s 0 m.length .none) (H' := H.newRow (base + site) s m) (fp := ⟨[j2] ++ [] ++ [], [] ++ [base + site], false⟩) hw ?_ rfl h
 have e1 : Cy H s (.slc j2 g2 m.length s 0 m.length cap2) = some (m, [j2]) := by
  simp [Cy, Ev (ver := m.length) h2 rfl]
 have e2 : Fp H m = some (m, H, []) := by
  cases m with
  | nil => cases hm0
  | cons a m => simp [Fp, he]
 simp only [aop, hx, hy, Ka, e1, e2, Ad, Ac]
 simp only [Dw, hm0, Bd, Cp]
 rw [if_pos ⟨trivial, rfl, by simpa [Iv] using hb⟩]
 rfl
end
end Go.AI
namespace Go.Proofs.YtkpndfkpdnknkaaGreat
open Go.AI
def FR (H : Heap) (fr : AV) (fl : List Nat) : Prop := (fl = [] ∧ fr = .islc false true 0 []) ∨ (fl ≠ [] ∧ ∃ g, fr = .slc 30 g fl.length 1 0 fl.length none ∧ H 30 = ⟨g, false, .row 1 (NL fl)⟩)
def frCs (fl : List Nat) : AV := if fl = [] then .islc false true 0 [] else .islc true false 1 (NL fl)
theorem FR.fz {H : Heap} {fr : AV} {fl : List Nat} (h : FR H fr fl) (n : Nat) : fz false (n + 2) H fr = frCs fl := by
 unfold frCs
 rcases h with ⟨rfl, rfl⟩ | ⟨hne, g, rfl, hr⟩
 ·rfl
 ·rw [if_neg hne]
  exact Gp (out := false) hr rfl n
def mkVs (it imf : Bool) (l : List UInt8) (n : Nat) (ot : Bool) (oc : List AV) (mt mf : Bool) (m w0 w1 w2 i0 i1 i2 fl : List Nat) : List AV := [.islc it imf 1 (BL l), .int .i64 n, .iptr ot oc, .islc mt mf 1 (NL m), .islc true false 1 (NL w0), .islc true false 1 (NL w1), .islc true false 1 (NL w2), .islc true false 1 (NL i0), .islc true false 1 (NL i1), .islc true false 1 (NL i2), frCs fl]
theorem Afu {H : Heap} {it imf : Bool} {l : List UInt8} {n : Nat} {ot : Bool} {oc : List AV} {mt mf : Bool} {m w0 w1 w2 i0 i1 i2 fl : List Nat} {fr : AV} (hL : LK H (.islc it imf 1 (BL l)) (.iptr ot oc) (.islc mt mf 1 (NL m)) fr n w0 w1 w2 i0 i1 i2) (hF : FR H fr fl) (q : Nat) :
  fz false (q + 3) H (.ptr 0 1 1 11 0 0) = .iptr true (mkVs it imf l n ot oc mt mf m w0 w1 w2 i0 i1 i2 fl) := by
 obtain ⟨h0, h1, h2, h3, h13, h14, h15, l0, l1, l2, m0, m1, m2⟩ := hL
 have hrow : H.row 0 1 1 11 = some [.agg (mkCs (.islc it imf 1 (BL l)) (.iptr ot oc) (.islc mt mf 1 (NL m)) fr n)] := Ev (ver := 1) h0 rfl
 have e : fz false (q + 3) H (.ptr 0 1 1 11 0 0) = .iptr true ((mkCs (.islc it imf 1 (BL l)) (.iptr ot oc) (.islc mt mf 1 (NL m)) fr n).map (fz false (q + 2) H)) := by
  show (match H.row 0 1 1 11 with | some es => (match es[0]? with | some e => AV.iptr (!false) ((e.cells.drop 0).map (fz false (q + 2) H)) | .none => .junk) | .none => .junk) = _
  rw [hrow]; rfl
 rw [e]
 unfold mkCs mkVs
 simp only [Bb, Lj]
 rw [Gp (out := false) h1 l0 q, Gp (out := false) h2 l1 q, Gp (out := false) h3 l2 q, Gp (out := false) h13 m0 q, Gp (out := false) h14 m1 q, Gp (out := false) h15 m2 q, hF.fz q]
 rfl
def isOf (m m0 was : List Nat) (lv pl : Nat) : Nat := (Fq m m0 was lv pl).getD (was.getD pl 0)
def isR (m m0 was : List Nat) (lv n : Nat) : List Nat := (List.range n).map (isOf m m0 was lv)
def newR (m m0 was : List Nat) (lv n : Nat) : List Nat := (List.range n).flatMap fun j => if Fq m m0 was lv j = none then [lv, j] else []
theorem Xn (m m0 was : List Nat) (lv n : Nat) : newR m m0 was lv (n + 1) = newR m m0 was lv n ++ if Fq m m0 was lv n = none then [lv, n] else [] := by
 unfold newR; rw [Jl, Te]; simp
theorem Aci (m m0 was : List Nat) (lv : Nat) {n i : Nat} (h : i < n) : (isR m m0 was lv i ++ List.replicate (n - i) 0).set i (isOf m m0 was lv i) = isR m m0 was lv (i + 1) ++ List.replicate (n - (i + 1)) 0 := by
 have hl : (isR m m0 was lv i).length = i := by unfold isR; simp
 rw [Jt _ _ (by omega), hl, Mo, show n - i = (n - (i + 1)) + 1 by omega, La, Vj]
 unfold isR
 rw [Jl, Br, Ce]; rfl
theorem dC (m m0 was : List Nat) (lv : Nat) {n i : Nat} (h : i ≤ n) : (isR m m0 was lv i ++ List.replicate (n - i) 0).length = n := by
 unfold isR; simp; omega
theorem Ps (m m0 was : List Nat) (lv : Nat) : ∀ n, (newR m m0 was lv n).length ≤ 2 * n
 | 0 => by simp [newR]
 | n + 1 => by
  rw [Xn, Am]
  have := Ps m m0 was lv n
  split <;> simp <;> omega
theorem FR.more {H : Heap} {fr : AV} {fl : List Nat} {g : Nat} {a : List Nat} (ha : a ≠ []) (h : H 30 = ⟨g, false, .row 1 (NL fl ++ NL a)⟩) (hf : fr = .slc 30 g (fl.length + a.length) 1 0 (fl.length + a.length) none) : FR H fr (fl ++ a) := by
 refine .inr ⟨by simp [ha], g, by rw [hf, Am], ?_⟩
 rw [h]; unfold NL; rw [Br]
attribute [local irreducible] aops Bp Cs Df aop W WO
theorem Amh {k : Nat} (hk : 1000050 ≤ k) {H : Heap} {T : Tmps} {it imf : Bool} {l : List UInt8} {n : Nat} {ot : Bool} {q0 q1 q2 : AV} {t0 f0 bad : Bool} {mt mf : Bool} {m m0 w0 w1 w2 i1 i2 fl : List Nat} {fr : AV} (hm : m.length = 512) (hm0 : m0.length = 512) (hfl : fl.length ≤ 1000)
  (hL : LK H (.islc it imf 1 (BL l)) (.iptr ot [q0, q1, .islc t0 f0 1 (NL m0), q2, .bool bad]) (.islc mt mf 1 (NL m)) fr n w0 w1 w2 (List.replicate 64 0) i1 i2) (hF : FR H fr fl)
  (hT : Has T [(0, .ptr 0 1 1 11 0 0), (5, .int .i64 0), (32, .int .i64 0), (41, .int .i64 (64 : Nat)), (42, .int .i64 0)]) :
  W (Bp (CF k) noX 1 k (.loop Ga) T H) (fun ex T' H' => ex = .exit 4 ∧ (∃ fr', LK H' (.islc it imf 1 (BL l)) (.iptr ot [q0, q1, .islc t0 f0 1 (NL m0), q2, .bool bad]) (.islc mt mf 1 (NL m)) fr' n w0 w1 w2 (isR m m0 w0 0 64) i1 i2 ∧ FR H' fr' (fl ++ newR m m0 w0 0 64)) ∧ Has T' [(0, .ptr 0 1 1 11 0 0), (32, .int .i64 0)]) := by
 refine Fa 64 (fun i T' H' => (∃ fr', LK H' (.islc it imf 1 (BL l)) (.iptr ot [q0, q1, .islc t0 f0 1 (NL m0), q2, .bool bad]) (.islc mt mf 1 (NL m)) fr' n w0 w1 w2 (isR m m0 w0 0 i ++ List.replicate (64 - i) 0) i1 i2 ∧ FR H' fr' (fl ++ newR m m0 w0 0 i)) ∧ Has T' [(0, .ptr 0 1 1 11 0 0), (5, .int .i64 0), (32, .int .i64 0), (41, .int .i64 (64 : Nat)), (42, .int .i64 (i : Nat))]) ⟨⟨fr, hL, by simpa [newR] using hF⟩, hT⟩ (by omega) ?_
 clear hL hF hT
 rintro i T H2 hi ⟨⟨fr, hL, hF⟩, hT⟩
 rw [hT.eq]
 simp only [over]
 unfold Ga
 have hL0 := hL
 obtain ⟨h0, h1, h2, h3, h13, h14, h15, l0, l1, l2, b0, b1, b2⟩ := hL
 by_cases hlt : i < 64
 ·have hc := Auh k (by omega) (img := .islc it imf 1 (BL l)) (fr := frCs (fl ++ newR m m0 w0 0 i)) (n := n) (mt := mt) (mf := mf) (t0 := t0) (f0 := f0) (m := m) (m0 := m0) (w0 := w0) (w1 := w1) (w2 := w2) (i0 := (isR m m0 w0 0 i ++ List.replicate (64 - i) 0)) (i1 := i1) (i2 := i2) (bad := bad) (ot := ot) (q0 := q0) (q1 := q1) (q2 := q2) hm hm0 l0 i hlt
  have hz : [AV.ptr 0 1 1 11 0 0, .int .i64 0, .int .i64 (i : Nat)].map (fz false 6 H2) = [.iptr true (mkVs it imf l n ot [q0, q1, .islc t0 f0 1 (NL m0), q2, .bool bad] mt mf m w0 w1 w2 (isR m m0 w0 0 i ++ List.replicate (64 - i) 0) i1 i2 (fl ++ newR m m0 w0 0 i)), .int .i64 0, .int .i64 (i : Nat)] := by
   show [fz false (3 + 3) H2 (.ptr 0 1 1 11 0 0), _, _] = _
   rw [Afu hL0 hF 3]; rfl
  have hst := Aci m m0 w0 0 hlt
  have hln := dC m m0 w0 0 (Nat.le_of_lt hlt)
  have hln' := dC m m0 w0 0 (n := 64) (i := i + 1) (by omega)
  have hNl : (NL (isR m m0 w0 0 i ++ List.replicate (64 - i) 0)).length = 64 := by rw [Cj, hln]
  have hnw := Xn m m0 w0 0 i
  have hnl := Ps m m0 w0 0 i
  unfold isOf at hst
  unfold mkCs at h0
  cases hkp : Fq m m0 w0 0 i with
  | some a =>
   rw [hkp] at hc hst hnw
   rw [if_neg (by simp), Bz] at hnw
   have hst : (isR m m0 w0 0 i ++ List.replicate (64 - i) 0).set i a = _ := hst
   repeat' (first
    | refine qS ?_ | refine Ab hc ?_ rfl (by exact hz) | refine En rfl rfl (by decide) (by decide) rfl rfl ?_ | refine Aw ?_ (hr := by exact h0)
    | refine Eb rfl rfl (by exact h13) hNl (by omega) (by omega) (by omega) rfl rfl ?_
    | refine Dz (enc := nav) (l := isR m m0 w0 0 i ++ List.replicate (64 - i) 0) (a := a) ?_ (hr := by exact h13) (hv0 := by exact hln) | refine qQba ?_ | refine Bu fun _ => ?_)
   have hrow : (⟨1, false, .row 1 (((isR m m0 w0 0 i ++ List.replicate (64 - i) 0).set (0 + (i : Int).toNat) a).map nav)⟩ : Blk) = ⟨1, false, .row 1 (NL (isR m m0 w0 0 (i + 1) ++ List.replicate (64 - (i + 1)) 0))⟩ := by
    rw [show 0 + (i : Int).toNat = i by omega, hst]; rfl
   refine ⟨hlt, ⟨fr, ⟨h0, h1, h2, h3, hrow, h14, h15, l0, l1, l2, hln', b1, b2⟩, ?_⟩, rfl, rfl, rfl, rfl, by show AV.int _ _ = AV.int _ _; congr 1, trivial⟩
   rw [hnw]
   exact hF
  | none =>
   rw [hkp] at hc hst hnw
   rw [if_pos rfl] at hnw
   have hst : (isR m m0 w0 0 i ++ List.replicate (64 - i) 0).set i (w0.getD i 0) = _ := hst
   have hrow : (⟨1, false, .row 1 (((isR m m0 w0 0 i ++ List.replicate (64 - i) 0).set (0 + (i : Int).toNat) (w0.getD i 0)).map nav)⟩ : Blk) = ⟨1, false, .row 1 (NL (isR m m0 w0 0 (i + 1) ++ List.replicate (64 - (i + 1)) 0))⟩ := by
    rw [show 0 + (i : Int).toNat = i by omega, hst]; rfl
   rcases hF with ⟨hn0, rfl⟩ | ⟨hn0, g, rfl, hr⟩
   ·skip
    repeat' (first
     | refine qS ?_ | refine Ab hc ?_ rfl (by exact hz) | refine En rfl rfl (by decide) (by decide) rfl rfl ?_ | refine Aw ?_ (hr := by exact h0)
     | refine Eb rfl rfl (by exact h13) hNl (by omega) (by omega) (by omega) rfl rfl ?_
     | refine Dz (enc := nav) (l := isR m m0 w0 0 i ++ List.replicate (64 - i) 0) (a := w0.getD i 0) ?_ (hr := by exact h13) (hv0 := by exact hln)
     | refine Gw ?_ (hc := by kernel_rfl) | refine uM rfl rfl rfl rfl rfl rfl (by decide) rfl rfl ?_ | refine Cn ?_ (hr := by exact h0) | refine qQba ?_
     | refine Bu fun _ => ?_)
    refine ⟨hlt, ⟨_, ⟨rfl, h1, h2, h3, hrow, h14, h15, l0, l1, l2, hln', b1, b2⟩, ?_⟩, rfl, rfl, rfl, rfl, by show AV.int _ _ = AV.int _ _; congr 1, trivial⟩
    rw [hnw, ← Ce, hn0]
    exact FR.more (fl := []) (by simp) rfl rfl
   ·have hle : (fl ++ newR m m0 w0 0 i).length + 2 ≤ 68719476736 := by rw [Am]; omega
    have hNf : (NL (fl ++ newR m m0 w0 0 i)).length = (fl ++ newR m m0 w0 0 i).length := Cj _
    repeat' (first
     | refine qS ?_ | refine Ab hc ?_ rfl (by exact hz) | refine En rfl rfl (by decide) (by decide) rfl rfl ?_ | refine Aw ?_ (hr := by exact h0)
     | refine Eb rfl rfl (by exact h13) hNl (by omega) (by omega) (by omega) rfl rfl ?_
     | refine Dz (enc := nav) (l := isR m m0 w0 0 i ++ List.replicate (64 - i) 0) (a := w0.getD i 0) ?_ (hr := by exact h13) (hv0 := by exact hln)
     | refine Gw ?_ (hc := by kernel_rfl) | refine gW rfl rfl rfl (by exact hr) rfl rfl hNf rfl hle rfl rfl (fun _ => ?_) | refine Cn ?_ (hr := by exact h0)
     | refine qQba ?_ | refine Bu fun _ => ?_)
    refine ⟨hlt, ⟨_, ⟨rfl, h1, h2, h3, hrow, h14, h15, l0, l1, l2, hln', b1, b2⟩, ?_⟩, rfl, rfl, rfl, rfl, by show AV.int _ _ = AV.int _ _; congr 1, trivial⟩
    rw [hnw, ← Ce]
    exact FR.more (by simp) rfl rfl
 ·have hin : i = 64 := by omega
  subst hin
  repeat' (first | refine qQb ?_ | refine Bu fun _ => ?_)
  have e : isR m m0 w0 0 64 ++ List.replicate (64 - 64) 0 = isR m m0 w0 0 64 := by simp
  rw [e] at hL0
  exact ⟨rfl, ⟨fr, hL0, hF⟩, rfl, rfl, trivial⟩
theorem Anf {k : Nat} (hk : 1000050 ≤ k) {H : Heap} {T : Tmps} {it imf : Bool} {l : List UInt8} {n : Nat} {ot : Bool} {q0 q1 q2 : AV} {t0 f0 bad : Bool} {mt mf : Bool} {m m0 w0 w1 w2 i0 i2 fl : List Nat} {fr : AV} (hm : m.length = 512) (hm0 : m0.length = 512) (hfl : fl.length ≤ 1000)
  (hL : LK H (.islc it imf 1 (BL l)) (.iptr ot [q0, q1, .islc t0 f0 1 (NL m0), q2, .bool bad]) (.islc mt mf 1 (NL m)) fr n w0 w1 w2 i0 (List.replicate 8 0) i2) (hF : FR H fr fl)
  (hT : Has T [(0, .ptr 0 1 1 11 0 0), (5, .int .i64 1), (32, .int .i64 1), (41, .int .i64 (8 : Nat)), (42, .int .i64 0)]) :
  W (Bp (CF k) noX 1 k (.loop Ga) T H) (fun ex T' H' => ex = .exit 4 ∧ (∃ fr', LK H' (.islc it imf 1 (BL l)) (.iptr ot [q0, q1, .islc t0 f0 1 (NL m0), q2, .bool bad]) (.islc mt mf 1 (NL m)) fr' n w0 w1 w2 i0 (isR m m0 w1 1 8) i2 ∧ FR H' fr' (fl ++ newR m m0 w1 1 8)) ∧ Has T' [(0, .ptr 0 1 1 11 0 0), (32, .int .i64 1)]) := by
 refine Fa 8 (fun i T' H' => (∃ fr', LK H' (.islc it imf 1 (BL l)) (.iptr ot [q0, q1, .islc t0 f0 1 (NL m0), q2, .bool bad]) (.islc mt mf 1 (NL m)) fr' n w0 w1 w2 i0 (isR m m0 w1 1 i ++ List.replicate (8 - i) 0) i2 ∧ FR H' fr' (fl ++ newR m m0 w1 1 i)) ∧ Has T' [(0, .ptr 0 1 1 11 0 0), (5, .int .i64 1), (32, .int .i64 1), (41, .int .i64 (8 : Nat)), (42, .int .i64 (i : Nat))]) ⟨⟨fr, hL, by simpa [newR] using hF⟩, hT⟩ (by omega) ?_
 clear hL hF hT
 rintro i T H2 hi ⟨⟨fr, hL, hF⟩, hT⟩
 rw [hT.eq]
 simp only [over]
 unfold Ga
 have hL0 := hL
 obtain ⟨h0, h1, h2, h3, h13, h14, h15, l0, l1, l2, b0, b1, b2⟩ := hL
 by_cases hlt : i < 8
 ·have hc := Aut k (by omega) (img := .islc it imf 1 (BL l)) (fr := frCs (fl ++ newR m m0 w1 1 i)) (n := n) (mt := mt) (mf := mf) (t0 := t0) (f0 := f0) (m := m) (m0 := m0) (w0 := w0) (w1 := w1) (w2 := w2) (i0 := i0) (i1 := (isR m m0 w1 1 i ++ List.replicate (8 - i) 0)) (i2 := i2) (bad := bad) (ot := ot) (q0 := q0) (q1 := q1) (q2 := q2) hm hm0 l1 i hlt
  have hz : [AV.ptr 0 1 1 11 0 0, .int .i64 1, .int .i64 (i : Nat)].map (fz false 6 H2) = [.iptr true (mkVs it imf l n ot [q0, q1, .islc t0 f0 1 (NL m0), q2, .bool bad] mt mf m w0 w1 w2 i0 (isR m m0 w1 1 i ++ List.replicate (8 - i) 0) i2 (fl ++ newR m m0 w1 1 i)), .int .i64 1, .int .i64 (i : Nat)] := by
   show [fz false (3 + 3) H2 (.ptr 0 1 1 11 0 0), _, _] = _
   rw [Afu hL0 hF 3]; rfl
  have hst := Aci m m0 w1 1 hlt
  have hln := dC m m0 w1 1 (Nat.le_of_lt hlt)
  have hln' := dC m m0 w1 1 (n := 8) (i := i + 1) (by omega)
  have hNl : (NL (isR m m0 w1 1 i ++ List.replicate (8 - i) 0)).length = 8 := by rw [Cj, hln]
  have hnw := Xn m m0 w1 1 i
  have hnl := Ps m m0 w1 1 i
  unfold isOf at hst
  unfold mkCs at h0
  cases hkp : Fq m m0 w1 1 i with
  | some a =>
   rw [hkp] at hc hst hnw
   rw [if_neg (by simp), Bz] at hnw
   have hst : (isR m m0 w1 1 i ++ List.replicate (8 - i) 0).set i a = _ := hst
   repeat' (first
    | refine qS ?_ | refine Ab hc ?_ rfl (by exact hz) | refine En rfl rfl (by decide) (by decide) rfl rfl ?_ | refine Aw ?_ (hr := by exact h0)
    | refine Eb rfl rfl (by exact h14) hNl (by omega) (by omega) (by omega) rfl rfl ?_
    | refine Dz (enc := nav) (l := isR m m0 w1 1 i ++ List.replicate (8 - i) 0) (a := a) ?_ (hr := by exact h14) (hv0 := by exact hln) | refine qQba ?_ | refine Bu fun _ => ?_)
   have hrow : (⟨1, false, .row 1 (((isR m m0 w1 1 i ++ List.replicate (8 - i) 0).set (0 + (i : Int).toNat) a).map nav)⟩ : Blk) = ⟨1, false, .row 1 (NL (isR m m0 w1 1 (i + 1) ++ List.replicate (8 - (i + 1)) 0))⟩ := by
    rw [show 0 + (i : Int).toNat = i by omega, hst]; rfl
   refine ⟨hlt, ⟨fr, ⟨h0, h1, h2, h3, h13, hrow, h15, l0, l1, l2, b0, hln', b2⟩, ?_⟩, rfl, rfl, rfl, rfl, by show AV.int _ _ = AV.int _ _; congr 1, trivial⟩
   rw [hnw]
   exact hF
  | none =>
   rw [hkp] at hc hst hnw
   rw [if_pos rfl] at hnw
   have hst : (isR m m0 w1 1 i ++ List.replicate (8 - i) 0).set i (w1.getD i 0) = _ := hst
   have hrow : (⟨1, false, .row 1 (((isR m m0 w1 1 i ++ List.replicate (8 - i) 0).set (0 + (i : Int).toNat) (w1.getD i 0)).map nav)⟩ : Blk) = ⟨1, false, .row 1 (NL (isR m m0 w1 1 (i + 1) ++ List.replicate (8 - (i + 1)) 0))⟩ := by
    rw [show 0 + (i : Int).toNat = i by omega, hst]; rfl
   rcases hF with ⟨hn0, rfl⟩ | ⟨hn0, g, rfl, hr⟩
   ·skip
    repeat' (first
     | refine qS ?_ | refine Ab hc ?_ rfl (by exact hz) | refine En rfl rfl (by decide) (by decide) rfl rfl ?_ | refine Aw ?_ (hr := by exact h0)
     | refine Eb rfl rfl (by exact h14) hNl (by omega) (by omega) (by omega) rfl rfl ?_
     | refine Dz (enc := nav) (l := isR m m0 w1 1 i ++ List.replicate (8 - i) 0) (a := w1.getD i 0) ?_ (hr := by exact h14) (hv0 := by exact hln)
     | refine Gw ?_ (hc := by kernel_rfl) | refine uM rfl rfl rfl rfl rfl rfl (by decide) rfl rfl ?_ | refine Cn ?_ (hr := by exact h0) | refine qQba ?_
     | refine Bu fun _ => ?_)
    refine ⟨hlt, ⟨_, ⟨rfl, h1, h2, h3, h13, hrow, h15, l0, l1, l2, b0, hln', b2⟩, ?_⟩, rfl, rfl, rfl, rfl, by show AV.int _ _ = AV.int _ _; congr 1, trivial⟩
    rw [hnw, ← Ce, hn0]
    exact FR.more (fl := []) (by simp) rfl rfl
   ·have hle : (fl ++ newR m m0 w1 1 i).length + 2 ≤ 68719476736 := by rw [Am]; omega
    have hNf : (NL (fl ++ newR m m0 w1 1 i)).length = (fl ++ newR m m0 w1 1 i).length := Cj _
    repeat' (first
     | refine qS ?_ | refine Ab hc ?_ rfl (by exact hz) | refine En rfl rfl (by decide) (by decide) rfl rfl ?_ | refine Aw ?_ (hr := by exact h0)
     | refine Eb rfl rfl (by exact h14) hNl (by omega) (by omega) (by omega) rfl rfl ?_
     | refine Dz (enc := nav) (l := isR m m0 w1 1 i ++ List.replicate (8 - i) 0) (a := w1.getD i 0) ?_ (hr := by exact h14) (hv0 := by exact hln)
     | refine Gw ?_ (hc := by kernel_rfl) | refine gW rfl rfl rfl (by exact hr) rfl rfl hNf rfl hle rfl rfl (fun _ => ?_) | refine Cn ?_ (hr := by exact h0)
     | refine qQba ?_ | refine Bu fun _ => ?_)
    refine ⟨hlt, ⟨_, ⟨rfl, h1, h2, h3, h13, hrow, h15, l0, l1, l2, b0, hln', b2⟩, ?_⟩, rfl, rfl, rfl, rfl, by show AV.int _ _ = AV.int _ _; congr 1, trivial⟩
    rw [hnw, ← Ce]
    exact FR.more (by simp) rfl rfl
 ·have hin : i = 8 := by omega
  subst hin
  repeat' (first | refine qQb ?_ | refine Bu fun _ => ?_)
  have e : isR m m0 w1 1 8 ++ List.replicate (8 - 8) 0 = isR m m0 w1 1 8 := by simp
  rw [e] at hL0
  exact ⟨rfl, ⟨fr, hL0, hF⟩, rfl, rfl, trivial⟩
theorem Aog {k : Nat} (hk : 1000050 ≤ k) {H : Heap} {T : Tmps} {it imf : Bool} {l : List UInt8} {n : Nat} {ot : Bool} {q0 q1 q2 : AV} {t0 f0 bad : Bool} {mt mf : Bool} {m m0 w0 w1 w2 i0 i1 fl : List Nat} {fr : AV} (hm : m.length = 512) (hm0 : m0.length = 512) (hfl : fl.length ≤ 1000)
  (hL : LK H (.islc it imf 1 (BL l)) (.iptr ot [q0, q1, .islc t0 f0 1 (NL m0), q2, .bool bad]) (.islc mt mf 1 (NL m)) fr n w0 w1 w2 i0 i1 (List.replicate 1 0)) (hF : FR H fr fl)
  (hT : Has T [(0, .ptr 0 1 1 11 0 0), (5, .int .i64 2), (32, .int .i64 2), (41, .int .i64 (1 : Nat)), (42, .int .i64 0)]) :
  W (Bp (CF k) noX 1 k (.loop Ga) T H) (fun ex T' H' => ex = .exit 4 ∧ (∃ fr', LK H' (.islc it imf 1 (BL l)) (.iptr ot [q0, q1, .islc t0 f0 1 (NL m0), q2, .bool bad]) (.islc mt mf 1 (NL m)) fr' n w0 w1 w2 i0 i1 (isR m m0 w2 2 1) ∧ FR H' fr' (fl ++ newR m m0 w2 2 1)) ∧ Has T' [(0, .ptr 0 1 1 11 0 0), (32, .int .i64 2)]) := by
 refine Fa 1 (fun i T' H' => (∃ fr', LK H' (.islc it imf 1 (BL l)) (.iptr ot [q0, q1, .islc t0 f0 1 (NL m0), q2, .bool bad]) (.islc mt mf 1 (NL m)) fr' n w0 w1 w2 i0 i1 (isR m m0 w2 2 i ++ List.replicate (1 - i) 0) ∧ FR H' fr' (fl ++ newR m m0 w2 2 i)) ∧ Has T' [(0, .ptr 0 1 1 11 0 0), (5, .int .i64 2), (32, .int .i64 2), (41, .int .i64 (1 : Nat)), (42, .int .i64 (i : Nat))]) ⟨⟨fr, hL, by simpa [newR] using hF⟩, hT⟩ (by omega) ?_
 clear hL hF hT
 rintro i T H2 hi ⟨⟨fr, hL, hF⟩, hT⟩
 rw [hT.eq]
 simp only [over]
 unfold Ga
 have hL0 := hL
 obtain ⟨h0, h1, h2, h3, h13, h14, h15, l0, l1, l2, b0, b1, b2⟩ := hL
 by_cases hlt : i < 1
 ·have hc := Asz k (by omega) (img := .islc it imf 1 (BL l)) (fr := frCs (fl ++ newR m m0 w2 2 i)) (n := n) (mt := mt) (mf := mf) (t0 := t0) (f0 := f0) (m := m) (m0 := m0) (w0 := w0) (w1 := w1) (w2 := w2) (i0 := i0) (i1 := i1) (i2 := (isR m m0 w2 2 i ++ List.replicate (1 - i) 0)) (bad := bad) (ot := ot) (q0 := q0) (q1 := q1) (q2 := q2) hm hm0 l2 i hlt
  have hz : [AV.ptr 0 1 1 11 0 0, .int .i64 2, .int .i64 (i : Nat)].map (fz false 6 H2) = [.iptr true (mkVs it imf l n ot [q0, q1, .islc t0 f0 1 (NL m0), q2, .bool bad] mt mf m w0 w1 w2 i0 i1 (isR m m0 w2 2 i ++ List.replicate (1 - i) 0) (fl ++ newR m m0 w2 2 i)), .int .i64 2, .int .i64 (i : Nat)] := by
   show [fz false (3 + 3) H2 (.ptr 0 1 1 11 0 0), _, _] = _
   rw [Afu hL0 hF 3]; rfl
  have hst := Aci m m0 w2 2 hlt
  have hln := dC m m0 w2 2 (Nat.le_of_lt hlt)
  have hln' := dC m m0 w2 2 (n := 1) (i := i + 1) (by omega)
  have hNl : (NL (isR m m0 w2 2 i ++ List.replicate (1 - i) 0)).length = 1 := by rw [Cj, hln]
  have hnw := Xn m m0 w2 2 i
  have hnl := Ps m m0 w2 2 i
  unfold isOf at hst
  unfold mkCs at h0
  cases hkp : Fq m m0 w2 2 i with
  | some a =>
   rw [hkp] at hc hst hnw
   rw [if_neg (by simp), Bz] at hnw
   have hst : (isR m m0 w2 2 i ++ List.replicate (1 - i) 0).set i a = _ := hst
   repeat' (first
    | refine qS ?_ | refine Ab hc ?_ rfl (by exact hz) | refine En rfl rfl (by decide) (by decide) rfl rfl ?_ | refine Aw ?_ (hr := by exact h0)
    | refine Eb rfl rfl (by exact h15) hNl (by omega) (by omega) (by omega) rfl rfl ?_
    | refine Dz (enc := nav) (l := isR m m0 w2 2 i ++ List.replicate (1 - i) 0) (a := a) ?_ (hr := by exact h15) (hv0 := by exact hln) | refine qQba ?_ | refine Bu fun _ => ?_)
   have hrow : (⟨1, false, .row 1 (((isR m m0 w2 2 i ++ List.replicate (1 - i) 0).set (0 + (i : Int).toNat) a).map nav)⟩ : Blk) = ⟨1, false, .row 1 (NL (isR m m0 w2 2 (i + 1) ++ List.replicate (1 - (i + 1)) 0))⟩ := by
    rw [show 0 + (i : Int).toNat = i by omega, hst]; rfl
   refine ⟨hlt, ⟨fr, ⟨h0, h1, h2, h3, h13, h14, hrow, l0, l1, l2, b0, b1, hln'⟩, ?_⟩, rfl, rfl, rfl, rfl, by show AV.int _ _ = AV.int _ _; congr 1, trivial⟩
   rw [hnw]
   exact hF
  | none =>
   rw [hkp] at hc hst hnw
   rw [if_pos rfl] at hnw
   have hst : (isR m m0 w2 2 i ++ List.replicate (1 - i) 0).set i (w2.getD i 0) = _ := hst
   have hrow : (⟨1, false, .row 1 (((isR m m0 w2 2 i ++ List.replicate (1 - i) 0).set (0 + (i : Int).toNat) (w2.getD i 0)).map nav)⟩ : Blk) = ⟨1, false, .row 1 (NL (isR m m0 w2 2 (i + 1) ++ List.replicate (1 - (i + 1)) 0))⟩ := by
    rw [show 0 + (i : Int).toNat = i by omega, hst]; rfl
   rcases hF with ⟨hn0, rfl⟩ | ⟨hn0, g, rfl, hr⟩
   ·skip
    repeat' (first
     | refine qS ?_ | refine Ab hc ?_ rfl (by exact hz) | refine En rfl rfl (by decide) (by decide) rfl rfl ?_ | refine Aw ?_ (hr := by exact h0)
     | refine Eb rfl rfl (by exact h15) hNl (by omega) (by omega) (by omega) rfl rfl ?_
     | refine Dz (enc := nav) (l := isR m m0 w2 2 i ++ List.replicate (1 - i) 0) (a := w2.getD i 0) ?_ (hr := by exact h15) (hv0 := by exact hln)
     | refine Gw ?_ (hc := by kernel_rfl) | refine uM rfl rfl rfl rfl rfl rfl (by decide) rfl rfl ?_ | refine Cn ?_ (hr := by exact h0) | refine qQba ?_
     | refine Bu fun _ => ?_)
    refine ⟨hlt, ⟨_, ⟨rfl, h1, h2, h3, h13, h14, hrow, l0, l1, l2, b0, b1, hln'⟩, ?_⟩, rfl, rfl, rfl, rfl, by show AV.int _ _ = AV.int _ _; congr 1, trivial⟩
    rw [hnw, ← Ce, hn0]
    exact FR.more (fl := []) (by simp) rfl rfl
   ·have hle : (fl ++ newR m m0 w2 2 i).length + 2 ≤ 68719476736 := by rw [Am]; omega
    have hNf : (NL (fl ++ newR m m0 w2 2 i)).length = (fl ++ newR m m0 w2 2 i).length := Cj _
    repeat' (first
     | refine qS ?_ | refine Ab hc ?_ rfl (by exact hz) | refine En rfl rfl (by decide) (by decide) rfl rfl ?_ | refine Aw ?_ (hr := by exact h0)
     | refine Eb rfl rfl (by exact h15) hNl (by omega) (by omega) (by omega) rfl rfl ?_
     | refine Dz (enc := nav) (l := isR m m0 w2 2 i ++ List.replicate (1 - i) 0) (a := w2.getD i 0) ?_ (hr := by exact h15) (hv0 := by exact hln)
     | refine Gw ?_ (hc := by kernel_rfl) | refine gW rfl rfl rfl (by exact hr) rfl rfl hNf rfl hle rfl rfl (fun _ => ?_) | refine Cn ?_ (hr := by exact h0)
     | refine qQba ?_ | refine Bu fun _ => ?_)
    refine ⟨hlt, ⟨_, ⟨rfl, h1, h2, h3, h13, h14, hrow, l0, l1, l2, b0, b1, hln'⟩, ?_⟩, rfl, rfl, rfl, rfl, by show AV.int _ _ = AV.int _ _; congr 1, trivial⟩
    rw [hnw, ← Ce]
    exact FR.more (by simp) rfl rfl
 ·have hin : i = 1 := by omega
  subst hin
  repeat' (first | refine qQb ?_ | refine Bu fun _ => ?_)
  have e : isR m m0 w2 2 1 ++ List.replicate (1 - 1) 0 = isR m m0 w2 2 1 := by simp
  rw [e] at hL0
  exact ⟨rfl, ⟨fr, hL0, hF⟩, rfl, rfl, trivial⟩
end Go.Proofs.YtkpndfkpdnknkaaGreat
set_option maxRecDepth 10000
set_option maxHeartbeats 16000000
namespace Go.AI
section
variable {cf : Dh} {xf : ExtF} {base : Nat} {T : Tmps} {H : Heap} {QO : Tmps → Heap → Prop} {log : List FP} {g : Option (Nat × Bool)} {un : List Nat} {r : List SOper} {d : Nat}
theorem Xg {site s : Nat} {z : AV} {x y : SArg} {k k' : IntKind} {n : Int} (m j : Nat) (hx : x.ev T = .int k n) (hy : y.ev T = .int k' n) (hm : n = m) (h1 : n ≤ 68719476736) (hz : z.cells.length = s) (hj : Kt H (base + site) many = j) (hg : (H j).gen = 0) (hw : Ai T g = some true) (hl : Bm log ⟨bY (base + site) many, [j], false⟩ un = true)
  (h : WO (aops cf xf base r (log ++ [⟨bY (base + site) many, [j], false⟩]) (T.upd d (.slc j 1 m s 0 m .none)) (H.upd j ⟨1, false, .row s (List.replicate m z)⟩)) QO) :
  WO (aops cf xf base (⟨some d, .mksN site s z x y, g, un⟩ :: r) log T H) QO := by
 refine Atk m j hx hy hm h1 hz hj hw hl ?_
 unfold Heap.newRow
 rw [hg]
 exact h
theorem Avp {b : Nat} (h : (H b).gen = 0) : Kt H b many = b := kH 0 many b (Mm _) (fun i hi => absurd hi (Nat.not_lt_zero _)) h
theorem Avi {b : Nat} (h0 : (H b).gen = 1) (h : (H (b + 1)).gen = 0) : Kt H b many = b + 1 := kH 1 many b (by decide) (fun i hi => by match i, hi with | 0, _ => rw [Et, h0]; decide) h
theorem Avx {b : Nat} (h0 : (H b).gen = 1) (h1 : (H (b + 1)).gen = 1) (h : (H (b + 2)).gen = 0) : Kt H b many = b + 2 := kH 2 many b (by decide) (fun i hi => by match i, hi with | 0, _ => rw [Et, h0]; decide | 1, _ => rw [h1]; decide) h
end
end Go.AI
namespace Go.Proofs.YtkpndfkpdnknkaaGreat
open Go.AI
def nilI : AV := .islc false true 0 []
def plCs (img old mv : AV) (n : Nat) : Nat → List AV
 | 0 => [img, .int .i64 n, old, mv, nilI, nilI, nilI, nilI, nilI, nilI, nilI]
 | 1 => [img, .int .i64 n, old, mv, .slc 1 1 64 1 0 64 none, nilI, nilI, .slc 13 1 64 1 0 64 none, nilI, nilI, nilI]
 | 2 => [img, .int .i64 n, old, mv, .slc 1 1 64 1 0 64 none, .slc 2 1 8 1 0 8 none, nilI, .slc 13 1 64 1 0 64 none, .slc 14 1 8 1 0 8 none, nilI, nilI]
 | _ => mkCs img old mv nilI n
def RowZ (H : Heap) (j sz : Nat) : Bool → Prop
 | true => H j = ⟨1, false, .row 1 (List.replicate sz (.int .i64 0))⟩
 | false => (H j).gen = 0
structure PLn (H : Heap) (img old mv : AV) (n : Nat) (cs : List AV) (b1 b2 b3 : Bool) : Prop where
 h0 : H 0 = ⟨1, false, .row 11 [.agg cs]⟩
 h1 : RowZ H 1 64 b1
 h2 : RowZ H 2 8 b2
 h3 : RowZ H 3 1 b3
 h13 : RowZ H 13 64 b1
 h14 : RowZ H 14 8 b2
 h15 : RowZ H 15 1 b3
def PLi (H : Heap) (img old mv : AV) (n i : Nat) : Prop := PLn H img old mv n (plCs img old mv n i) (decide (0 < i)) (decide (1 < i)) (decide (2 < i))
theorem mX (n : Nat) : List.replicate n (AV.int .i64 0) = NL (List.replicate n 0) := by unfold NL; rw [Ib]; rfl
theorem Aui (k : Nat) (hk : 1000 ≤ k) : FnV (CF k) Yz [.int .i64 (0 : Nat)] (.int .i64 (64 : Nat)) := Ms hk fun j => by kernel_rfl
theorem Auv (k : Nat) (hk : 1000 ≤ k) : FnV (CF k) Yz [.int .i64 (1 : Nat)] (.int .i64 (8 : Nat)) := Ms hk fun j => by kernel_rfl
theorem Aud (k : Nat) (hk : 1000 ≤ k) : FnV (CF k) Yz [.int .i64 (2 : Nat)] (.int .i64 (1 : Nat)) := Ms hk fun j => by kernel_rfl
attribute [local irreducible] aops Bp Cs Df aop W WO
theorem Auf {k : Nat} (hk : 1000050 ≤ k) {H : Heap} {T : Tmps} {img old mv : AV} {n : Nat} {root : AV} (hP : PLi H img old mv n 0) (hT : Has T [(0, .ptr 0 1 1 11 0 0), (1, root), (9, .int .i64 0)]) :
  W (Bp (CF k) noX 1 k (.loop Hd) T H) (fun ex T' H' => ex = .exit 0 ∧ PLi H' img old mv n 3 ∧ Has T' [(0, .ptr 0 1 1 11 0 0), (1, root)]) := by
 refine Fa 3 (fun i T' H' => PLi H' img old mv n i ∧ Has T' [(0, .ptr 0 1 1 11 0 0), (1, root), (9, .int .i64 (i : Nat))]) ⟨hP, hT⟩ (by omega) ?_
 clear hP hT
 rintro i T H2 hi ⟨hP, hT⟩
 have m0 := Aui k (by omega)
 have m1 := Auv k (by omega)
 have m2 := Aud k (by omega)
 match i, hi with
 | 0, _ =>
  rw [hT.eq]
  simp only [over]
  unfold Hd
  obtain ⟨h0, h1, h2, h3, h13, h14, h15⟩ := hP
  have g1 : (H2 1).gen = 0 := h1
  have g13 : (H2 13).gen = 0 := h13
  repeat' (first
   | refine qS ?_ | refine Ab m0 ?_ | refine Xg 64 1 rfl rfl rfl (by decide) rfl (by exact Avp (by exact g1)) (by exact g1) rfl rfl ?_
   | refine Xg 64 13 rfl rfl rfl (by decide) rfl (by exact Avp (by exact g13)) (by exact g13) rfl rfl ?_ | refine En rfl rfl (by decide) (by decide) rfl rfl ?_
   | refine Cn ?_ (hr := by exact h0) | refine Cn ?_ | refine qQb ?_ | refine Af (fun _ => ?_) (fun _ => ?_))
  exact ⟨by decide, ⟨rfl, rfl, h2, h3, rfl, h14, h15⟩, rfl, rfl, rfl, trivial⟩
 | 1, _ =>
  rw [hT.eq]
  simp only [over]
  unfold Hd
  obtain ⟨h0, h1, h2, h3, h13, h14, h15⟩ := hP
  have g1 : (H2 1).gen = 1 := by rw [show H2 1 = _ from h1]
  have g13 : (H2 13).gen = 1 := by rw [show H2 13 = _ from h13]
  have g2 : (H2 2).gen = 0 := h2
  have g14 : (H2 14).gen = 0 := h14
  repeat' (first
   | refine qS ?_ | refine Ab m1 ?_ | refine Xg 8 2 rfl rfl rfl (by decide) rfl (by exact Avi (by exact g1) (by exact g2)) (by exact g2) rfl rfl ?_
   | refine Xg 8 14 rfl rfl rfl (by decide) rfl (by exact Avi (by exact g13) (by exact g14)) (by exact g14) rfl rfl ?_ | refine En rfl rfl (by decide) (by decide) rfl rfl ?_
   | refine Cn ?_ (hr := by exact h0) | refine Cn ?_ | refine qQb ?_ | refine Af (fun _ => ?_) (fun _ => ?_))
  exact ⟨by decide, ⟨rfl, h1, rfl, h3, h13, rfl, h15⟩, rfl, rfl, rfl, trivial⟩
 | 2, _ =>
  rw [hT.eq]
  simp only [over]
  unfold Hd
  obtain ⟨h0, h1, h2, h3, h13, h14, h15⟩ := hP
  have g1 : (H2 1).gen = 1 := by rw [show H2 1 = _ from h1]
  have g2 : (H2 2).gen = 1 := by rw [show H2 2 = _ from h2]
  have g13 : (H2 13).gen = 1 := by rw [show H2 13 = _ from h13]
  have g14 : (H2 14).gen = 1 := by rw [show H2 14 = _ from h14]
  have g3 : (H2 3).gen = 0 := h3
  have g15 : (H2 15).gen = 0 := h15
  repeat' (first
   | refine qS ?_ | refine Ab m2 ?_ | refine Xg 1 3 rfl rfl rfl (by decide) rfl (by exact Avx (by exact g1) (by exact g2) (by exact g3)) (by exact g3) rfl rfl ?_
   | refine Xg 1 15 rfl rfl rfl (by decide) rfl (by exact Avx (by exact g13) (by exact g14) (by exact g15)) (by exact g15) rfl rfl ?_
   | refine En rfl rfl (by decide) (by decide) rfl rfl ?_ | refine Cn ?_ (hr := by exact h0) | refine Cn ?_ | refine qQb ?_ | refine Af (fun _ => ?_) (fun _ => ?_))
  exact ⟨by decide, ⟨rfl, h1, h2, rfl, h13, h14, rfl⟩, rfl, rfl, rfl, trivial⟩
 | 3, _ =>
  rw [hT.eq]
  simp only [over]
  unfold Hd
  repeat' (first | refine qQb ?_ | refine Af (fun _ => ?_) (fun _ => ?_))
  exact ⟨rfl, hP, rfl, rfl, trivial⟩
def Of (m m0 w0 w1 w2 : List Nat) : List Nat := newR m m0 w0 0 64 ++ newR m m0 w1 1 8 ++ newR m m0 w2 2 1
section
variable {it imf : Bool} {l : List UInt8} {n : Nat} {ot : Bool} {q0 q1 q2 : AV} {t0 f0 bad : Bool} {mt mf : Bool} {m m0 w0 w1 w2 : List Nat}
def isAt (m m0 : List Nat) (w : List Nat) (lv sz i : Nat) : List Nat := cond (Nat.ble i lv) (List.replicate sz 0) (isR m m0 w lv sz)
def flAt (m m0 w0 w1 w2 : List Nat) : Nat → List Nat
 | 0 => []
 | 1 => [] ++ newR m m0 w0 0 64
 | 2 => [] ++ newR m m0 w0 0 64 ++ newR m m0 w1 1 8
 | _ => [] ++ newR m m0 w0 0 64 ++ newR m m0 w1 1 8 ++ newR m m0 w2 2 1
theorem Aul {k : Nat} (hk : 1000060 ≤ k) {H : Heap} {T : Tmps} {fr : AV} (hm : m.length = 512) (hm0 : m0.length = 512)
  (hL : LK H (.islc it imf 1 (BL l)) (.iptr ot [q0, q1, .islc t0 f0 1 (NL m0), q2, .bool bad]) (.islc mt mf 1 (NL m)) fr n w0 w1 w2 (List.replicate 64 0) (List.replicate 8 0) (List.replicate 1 0)) (hF : FR H fr [])
  (hT : Has T [(0, .ptr 0 1 1 11 0 0), (32, .int .i64 0)]) :
  W (Bp (CF k) noX 1 k (.loop Hi) T H) (fun ex T' H' => ex = .exit 2 ∧ ∃ fr', LK H' (.islc it imf 1 (BL l)) (.iptr ot [q0, q1, .islc t0 f0 1 (NL m0), q2, .bool bad]) (.islc mt mf 1 (NL m)) fr' n w0 w1 w2 (isR m m0 w0 0 64) (isR m m0 w1 1 8) (isR m m0 w2 2 1) ∧ FR H' fr' (Of m m0 w0 w1 w2)) := by
 refine Fa 3 (fun i T' H' => (∃ fr', LK H' (.islc it imf 1 (BL l)) (.iptr ot [q0, q1, .islc t0 f0 1 (NL m0), q2, .bool bad]) (.islc mt mf 1 (NL m)) fr' n w0 w1 w2 (isAt m m0 w0 0 64 i) (isAt m m0 w1 1 8 i) (isAt m m0 w2 2 1 i) ∧ FR H' fr' (flAt m m0 w0 w1 w2 i)) ∧ Has T' [(0, .ptr 0 1 1 11 0 0), (32, .int .i64 (i : Nat))]) ⟨⟨fr, hL, hF⟩, hT⟩ (by omega) ?_
 clear hL hF hT
 rintro i T H2 hi ⟨⟨fr, hL, hF⟩, hT⟩
 have n0 := Ps m m0 w0 0 64
 have n1 := Ps m m0 w1 1 8
 match i, hi with
 | 0, _ =>
  rw [hT.eq]
  simp only [over]
  unfold Hi
  have h0 := hL.h0
  unfold mkCs at h0
  repeat' (first | refine qS ?_ | refine En rfl rfl (by decide) (by decide) rfl rfl ?_ | refine Aw ?_ (hr := by exact h0) | refine qQb ?_ | refine Af (fun _ => ?_) (fun _ => ?_))
  refine W.mono (Amh (k := k) (fl := []) (by omega) hm hm0 (by simp only [Am, Cq]; omega) hL hF ⟨rfl, rfl, rfl, rfl, rfl, trivial⟩) ?_
  rintro ex T3 H3 ⟨rfl, ⟨fr3, hL3, hF3⟩, hT3⟩
  rw [hT3.eq]
  simp only [over]
  show W _ _
  repeat' (first | refine qQb ?_ | refine Af (fun _ => ?_) (fun _ => ?_))
  exact ⟨by decide, ⟨fr3, hL3, hF3⟩, rfl, rfl, trivial⟩
 | 1, _ =>
  rw [hT.eq]
  simp only [over]
  unfold Hi
  have h0 := hL.h0
  unfold mkCs at h0
  repeat' (first | refine qS ?_ | refine En rfl rfl (by decide) (by decide) rfl rfl ?_ | refine Aw ?_ (hr := by exact h0) | refine qQb ?_ | refine Af (fun _ => ?_) (fun _ => ?_))
  refine W.mono (Anf (k := k) (fl := ([] ++ newR m m0 w0 0 64)) (by omega) hm hm0 (by simp only [Am, Cq]; omega) hL hF ⟨rfl, rfl, rfl, rfl, rfl, trivial⟩) ?_
  rintro ex T3 H3 ⟨rfl, ⟨fr3, hL3, hF3⟩, hT3⟩
  rw [hT3.eq]
  simp only [over]
  show W _ _
  repeat' (first | refine qQb ?_ | refine Af (fun _ => ?_) (fun _ => ?_))
  exact ⟨by decide, ⟨fr3, hL3, hF3⟩, rfl, rfl, trivial⟩
 | 2, _ =>
  rw [hT.eq]
  simp only [over]
  unfold Hi
  have h0 := hL.h0
  unfold mkCs at h0
  repeat' (first | refine qS ?_ | refine En rfl rfl (by decide) (by decide) rfl rfl ?_ | refine Aw ?_ (hr := by exact h0) | refine qQb ?_ | refine Af (fun _ => ?_) (fun _ => ?_))
  refine W.mono (Aog (k := k) (fl := ([] ++ newR m m0 w0 0 64 ++ newR m m0 w1 1 8)) (by omega) hm hm0 (by simp only [Am, Cq]; omega) hL hF ⟨rfl, rfl, rfl, rfl, rfl, trivial⟩) ?_
  rintro ex T3 H3 ⟨rfl, ⟨fr3, hL3, hF3⟩, hT3⟩
  rw [hT3.eq]
  simp only [over]
  show W _ _
  repeat' (first | refine qQb ?_ | refine Af (fun _ => ?_) (fun _ => ?_))
  exact ⟨by decide, ⟨fr3, hL3, hF3⟩, rfl, rfl, trivial⟩
 | 3, _ =>
  rw [hT.eq]
  simp only [over]
  unfold Hi
  repeat' (first | refine qQb ?_ | refine Af (fun _ => ?_) (fun _ => ?_))
  exact ⟨rfl, fr, hL, hF⟩
def was3 (l : List UInt8) (root : Nat) := lr2 l root (List.replicate 64 0, List.replicate 8 0, List.replicate 1 0)
theorem Awl (k : Nat) (hk : 1000070 ≤ k) {H : Heap} (hl : l.length < 1000000) (hn : 64 * n ≤ l.length) (hm : m.length = 512) (hm0 : m0.length = 512) (hP : PLi H (.islc false imf 1 (BL l)) (.iptr ot [q0, q1, .islc t0 f0 1 (NL m0), q2, .bool bad]) (.islc mt mf 1 (NL m)) n 0) (a : Nat)
  (hr : a ≠ 0 → 2 ≤ a ∧ a < n) (hrp : a ≠ 0 → ∀ p ∈ (Cw (blk l a)).1.ptr, p ≠ 0 → 2 ≤ p ∧ p < n) :
  ∃ u H', CF k Mf 1 [.ptr 0 1 1 11 0 0, .int .i64 a] H = some (u, H') ∧ ((∃ fr', LK H' (.islc false imf 1 (BL l)) (.iptr ot [q0, q1, .islc t0 f0 1 (NL m0), q2, .bool bad]) (.islc mt mf 1 (NL m)) fr' n (was3 l a).1 (was3 l a).2.1 (was3 l a).2.2 (isR m m0 (was3 l a).1 0 64) (isR m m0 (was3 l a).2.1 1 8) (isR m m0 (was3 l a).2.2 2 1) ∧ FR H' fr' (Of m m0 (was3 l a).1 (was3 l a).2.1 (was3 l a).2.2)) ∧ u = .tup []) := by
 refine fni (by omega) aB rfl ?_
 unfold __build_maker__plan
 repeat' (first | refine qQb ?_ | refine Af (fun _ => ?_) (fun _ => ?_) | refine Bu fun _ => ?_)
 refine W.mono (Auf (k := k - 1) (by omega) hP ⟨rfl, rfl, rfl, trivial⟩) ?_
 rintro ex T2 H2 ⟨rfl, hP2, hT2⟩
 rw [hT2.eq]
 simp only [over]
 show W _ _
 obtain ⟨h0, h1, h2, h3, h13, h14, h15⟩ := hP2
 have hL : LK H2 (.islc false imf 1 (BL l)) (.iptr ot [q0, q1, .islc t0 f0 1 (NL m0), q2, .bool bad]) (.islc mt mf 1 (NL m)) nilI n (List.replicate 64 0) (List.replicate 8 0) (List.replicate 1 0) (List.replicate 64 0) (List.replicate 8 0) (List.replicate 1 0) :=
  ⟨h0, by rw [show H2 1 = _ from h1, mX], by rw [show H2 2 = _ from h2, mX], by rw [show H2 3 = _ from h3, mX], by rw [show H2 13 = _ from h13, mX], by rw [show H2 14 = _ from h14, mX], by rw [show H2 15 = _ from h15, mX], rfl, rfl, rfl, rfl, rfl, rfl⟩
 have hle := Avy (k - 1) (by omega) hl hn hL a hr hrp
 repeat' (first | refine qS ?_ | refine Dd hle rfl rfl rfl (fun u H3 hR => ?_) | refine qQb ?_ | refine Af (fun _ => ?_) (fun _ => ?_) | refine Bu fun _ => ?_)
 obtain ⟨hL3, rfl⟩ := hR
 refine W.mono (Aul (k := k - 1) (by omega) hm hm0 hL3 (.inl ⟨rfl, rfl⟩) ⟨rfl, rfl, trivial⟩) ?_
 rintro ex T4 H4 ⟨rfl, fr4, hL4, hF4⟩
 exact ⟨Or.inl rfl, _, rfl, ⟨fr4, hL4, hF4⟩, rfl⟩
end
structure Ready (H : Heap) (f mt mf : Bool) (l : List UInt8) (w : WS) (m : List Nat) (root : Nat) (fr : AV) : Prop where
 hL : LK H (.islc false f 1 (BL l)) (.iptr false (Gr false f l w)) (.islc mt mf 1 (NL m)) fr (nb l) (was3 l root).1 (was3 l root).2.1 (was3 l root).2.2 (isR m w.m (was3 l root).1 0 64) (isR m w.m (was3 l root).2.1 1 8) (isR m w.m (was3 l root).2.2 2 1)
 hF : FR H fr (Of m w.m (was3 l root).1 (was3 l root).2.1 (was3 l root).2.2)
theorem Atb (k : Nat) (hk : 1000090 ≤ k) (f mt mf : Bool) (l : List UInt8) (hd : Dev l) (root : Nat) {w : WS} (h : goP l root = some w) (hw : w.m.length = 512) (m : List Nat) (hm : m.length = 512) (hmr : ∀ a ∈ m, a = 0 ∨ 2 ≤ a ∧ a < nb l)
  (hr : root ≠ 0 → 2 ≤ root ∧ root < nb l) (hrp : root ≠ 0 → ∀ p ∈ (Cw (blk l root)).1.ptr, p ≠ 0 → 2 ≤ p ∧ p < nb l) :
  ∃ u H', CF k Wj 0 [.islc false f 1 (BL l), .int .i64 root, .islc mt mf 1 (NL m)] Heap.none = some (u, H') ∧ ((∃ fr, Ready H' f mt mf l w m root fr) ∧ u = .tup [.ptr 0 1 1 11 0 0, .int .i64 0]) := by
 have hmap := Avw (k - 1) (by omega) f l hd root h
 have hck := Lq (k - 1) (by omega) false f l hd
 have htc := Abw (k - 1) (by omega) mt mf m (nb l) hm hmr
 have hgo := mR (k - 1) (by omega) f l hd root
 rw [h] at hgo
 have hlen := hd.1
 have hnb : 64 * nb l ≤ l.length := by unfold nb; omega
 unfold goAv at hgo
 simp only at hgo
 refine fni (by omega) wM rfl ?_
 unfold bC
 have hpl : ∀ (n0 : AV) (H : Heap), PLi H (.islc false f 1 (BL l)) (.iptr false (Gr false f l w)) (.islc mt mf 1 (NL m)) (nb l) 0 → ∃ u H', CF (k - 1) Mf 1 [.ptr 0 1 1 11 0 0, .int .i64 root] H = some (u, H') ∧ ((∃ fr, Ready H' f mt mf l w m root fr) ∧ u = .tup []) := by
  intro _ H hP
  unfold Gr at hP
  obtain ⟨u, H', e, ⟨fr, a1, a2⟩, a3⟩ := Awl (k - 1) (by omega) hlen hnb hm hw hP root hr hrp
  exact ⟨u, H', e, ⟨fr, ⟨a1, a2⟩⟩, a3⟩
 repeat' (first
  | refine qS ?_ | refine Ab hmap ?_ | refine Ab hck ?_ | refine Hn ?_ (hl := by kernel_rfl) | refine Ab htc ?_ | refine Ab hgo ?_
  | refine Dd (hpl .undef _ ⟨rfl, rfl, rfl, rfl, rfl, rfl, rfl⟩) rfl rfl rfl (fun u H3 hR => ?_) | refine qQb ?_ | refine Af (fun _ => ?_) (fun _ => ?_))
 exact ⟨Or.inr rfl, _, rfl, hR.1, rfl⟩
theorem Avd (k : Nat) (hk : 1 ≤ k) (it imf : Bool) (l : List UInt8) (n : Nat) (ot : Bool) (oc : List AV) (mt mf : Bool) (m w0 w1 w2 i0 i1 i2 fl : List Nat) (hfl : fl.length ≤ 1000) : FnV (CF k) Ls [.iptr true (mkVs it imf l n ot oc mt mf m w0 w1 w2 i0 i1 i2 fl)] (.int .i64 (fl.length / 2 : Nat)) := by
 have hml : (NL fl).length = fl.length := Cj fl
 have e1 : (fl.length : Int) / 2 = ((fl.length / 2 : Nat) : Int) := by omega
 unfold mkVs frCs
 refine fnk (by omega) Yq rfl ?_
 unfold Mp
 by_cases hn : fl = []
 ·rw [if_pos hn]
  repeat' (first | refine qQ ?_ | fail)
  exact ⟨Or.inr rfl, _, rfl, by rw [hn]; rfl⟩
 ·rw [if_neg hn]
  repeat' (first | refine qS ?_ | refine Bi (n := fl.length) rfl hml rfl rfl ?_ | (rw [e1]) | refine qQ ?_ | fail)
  exact ⟨Or.inr rfl, _, rfl, rfl⟩
theorem Ajt (m m0 w0 w1 w2 : List Nat) : (Of m m0 w0 w1 w2).length ≤ 146 := by
 unfold Of
 have h0 := Ps m m0 w0 0 64
 have h1 := Ps m m0 w1 1 8
 have h2 := Ps m m0 w2 2 1
 rw [Am, Am]; omega
def MayP (l : List UInt8) (w : WS) (m fs : List Nat) : Prop := (∀ i, (h : i < fs.length) → 2 ≤ fs[i] ∧ fs[i] < nb l ∧ fs[i] ∉ m ∧ fs[i] ∉ w.m ∧ fs[i] ∉ w.nodes) ∧ ∀ i, (h : i + 1 < fs.length) → fs[i]'(by omega) < fs[i + 1]
end Go.Proofs.YtkpndfkpdnknkaaGreat
