/- Lemmas. -/
import Derived.Test.YtkaiiopoilpjeaaGreatMJ4b
set_option linter.unusedSimpArgs false
set_option linter.unusedVariables false
set_option maxRecDepth 10000
set_option maxHeartbeats 16000000
namespace Go.Proofs.YtkaiiopoilpjeaaGreat
open Go.AI
theorem inR_iff {n lo hi : Int} : inR n lo hi = true ↔ (lo ≤ n ∧ n ≤ hi) := by simp only [inR, Cl, Dl, ge_iff_le]
theorem inR_f {n lo hi : Int} : inR n lo hi = false ↔ ¬ (lo ≤ n ∧ n ≤ hi) := by rw [← inR_iff]; simp
attribute [local irreducible] aops Br Cp Dp aop W WO
variable {xf : ExtF} {gf : Dk}
theorem Bif (k : Nat) (n lo hi : Int) : FnV (Cp B xf gf (k + 1)) Bcw [.int .i64 n, .int .i64 lo, .int .i64 hi] (.bool (inR n lo hi)) := by
 refine dA Bim rfl ?_
 unfold Bfg
 repeat' (first | refine qS ?_ | refine qN ?_ | refine qQb ?_ | refine Ac (fun _ => ?_) (fun _ => ?_))
 all_goals (refine ⟨Or.inr rfl, _, rfl, ?_⟩; show AV.bool _ = AV.bool _; congr 1; symm; simp only [cmpP] at *)
 all_goals first
  | exact inR_iff.2 (by omega)
  | (rw [jA]; intro h; rw [inR_iff] at h; omega)
theorem Bkr (k : Nat) (n : Int) : FnV (Cp B xf gf (k + 2)) Bct [.int .i64 n] (.bool (inR n 1 4611686018427387903)) := by
 have h := Bif (xf := xf) (gf := gf) k n 1 4611686018427387903
 refine dA Bil rfl ?_
 unfold Bfb
 repeat' (first | refine qS ?_ | refine bN h rfl rfl rfl ?_ | refine qQb ?_ | fail)
 exact ⟨Or.inr rfl, _, rfl, rfl⟩
section
variable {cf : Dk} {base fuel : Nat} {T : Tmps} {H : Heap} {QO : Tmps → Heap → Prop} {log : List FP} {g : Option (Nat × Bool)} {un : List Nat} {r : List SOper} {d : Nat}
attribute [local semireducible] aop WO aops
theorem Avn {x y : SArg} {a b : Int} (hx : x.ev T = .int .i64 a) (hy : y.ev T = .int .i64 b) (ha : 0 ≤ a ∧ a ≤ 9223372036854775807) (hb : 0 < b) (hw : Aj T g = some true) (hl : Bn log .z un = true)
  (h : WO (aops cf xf base r (log ++ [.z]) (T.upd d (.int .i64 (a / b))) H) QO) : WO (aops cf xf base (⟨some d, .bin .quo x y, g, un⟩ :: r) log T H) QO :=
 Bf (v := .int .i64 (a / b)) hw (by
  have h0 : b ≠ 0 := by omega
  have h1 : a.tdiv b = a / b := Int.tdiv_eq_ediv_of_nonneg ha.1
  have h2 : 0 ≤ a / b := Bfu ha.1 (by omega)
  have h3 : a / b ≤ a := Blb _ ha.1
  simp only [aop, hx, hy, abin, ne_eq, Vo, Cn, h0, h1, Ab, rv]
  rw [IntWalk.i64_in _ ⟨by omega, by omega⟩]) hl h
theorem Bkz {x y : SArg} {a b : Int} (hx : x.ev T = .int .u32 a) (hy : y.ev T = .int .u32 b) (ha : 0 ≤ a ∧ a ≤ 4294967295) (hb : 0 < b) (hw : Aj T g = some true) (hl : Bn log .z un = true)
  (h : WO (aops cf xf base r (log ++ [.z]) (T.upd d (.int .u32 (a / b))) H) QO) : WO (aops cf xf base (⟨some d, .bin .quo x y, g, un⟩ :: r) log T H) QO :=
 Bf (v := .int .u32 (a / b)) hw (by
  have h0 : b ≠ 0 := by omega
  have h1 : a.tdiv b = a / b := Int.tdiv_eq_ediv_of_nonneg ha.1
  have h2 : 0 ≤ a / b := Bfu ha.1 (by omega)
  have h3 : a / b ≤ a := Blb _ ha.1
  simp only [aop, hx, hy, abin, ne_eq, Vo, Cn, h0, h1, Ab, rv]
  rw [IntWalk.u32_in _ ⟨by omega, by omega⟩]) hl h
end
theorem Ble {a : List UInt8} {i : Nat} (h : i < a.length) : bAt a (i : Int) = a[i] := by
 simp [bAt, h]
theorem Bko {l : List UInt8} {i : Nat} (h : i < l.length) : leN (l.drop i) = (bAt l (i : Int)).toNat + 256 * leN (l.drop (i + 1)) := by
 rw [Cm h, Ble h]
 rfl
theorem Beg : ∀ (l : List UInt8) (i : Nat), leN (l.drop i) ≤ leN l
 | [], i => by simp
 | c :: l, 0 => by simp
 | c :: l, i + 1 => by
  have := Beg l i
  simp only [Afb, leN]
  omega
theorem Ben {cf : Dk} {base fuel : Nat} {T : Tmps} {H : Heap} {t f : Bool} {l : List UInt8} (hl : l.length ≤ 8) (hk : 9 < fuel)
  (hT : Has T [(0, .islc t f 1 (BL l)), (4, .int .i64 0), (5, .int .i64 ((l.length : Int) - 1))]) :
  W (Br cf xf base fuel (.loop Azd) T H) (fun ex T' H' => H' = H ∧ ((ex = .exit 0 ∧ leN l ≤ 4611686018427387903 ∧ T' 4 = .int .i64 (leN l : Nat)) ∨ (ex = .ret ∧ 4611686018427387903 < leN l ∧ T' 2 = .int .i64 0 ∧ T' 3 = .bool false))) := by
 refine eP (fun m T' H' => m ≤ l.length ∧ H' = H ∧ leN (l.drop m) ≤ 4611686018427387903 ∧ Has T' [(0, .islc t f 1 (BL l)), (4, .int .i64 (leN (l.drop m) : Nat)), (5, .int .i64 ((m : Int) - 1))])
  l.length ⟨Au _, rfl, by simp [leN], ?_⟩ (by omega) ?_
 ·obtain ⟨h0, h1, h2, _⟩ := hT
  exact ⟨h0, by rw [h1]; simp [leN], h2, trivial⟩
 rintro m T H1 hm ⟨_, rfl, hle, hT⟩
 by_cases hm0 : m = 0
 ·subst hm0
  rw [hT.eq]
  simp only [over]
  unfold Azd
  repeat' (first | refine qQ ?_ | refine Ac (fun _ => ?_) (fun _ => ?_))
  exact ⟨rfl, .inl ⟨rfl, by simpa using hle, by rfl⟩⟩
 have hd := Bko (l := l) (i := m - 1) (by omega)
 rw [show m - 1 + 1 = m by omega] at hd
 have hc := Abw (bAt l ((m - 1 : Nat) : Int))
 have em : (m : Int) - 1 = ((m - 1 : Nat) : Int) := by omega
 rw [em] at hT
 have hq0 : 0 ≤ (4611686018427387903 - ((bAt l ((m - 1 : Nat) : Int)).toNat : Int)) / 256 := by omega
 rw [hT.eq]
 simp only [over]
 unfold Azd
 repeat' (first | refine qS ?_ | refine Auz rfl (n := ((m - 1 : Nat) : Int)) rfl (by omega) (by omega) rfl rfl ?_ | refine Avn rfl rfl (by omega) (by omega) rfl rfl ?_ | refine qQ ?_ | refine Ac (fun _ => ?_) (fun _ => ?_))
 ·rename_i h1 h2
  simp only [cmpP] at h2
  refine ⟨rfl, .inr ⟨rfl, ?_, rfl, rfl⟩⟩
  have := Beg l (m - 1)
  omega
 ·rename_i h1 h2
  simp only [cmpP] at h2
  refine ⟨by omega, by omega, rfl, by omega, rfl, by first | rfl | (show AV.int _ _ = AV.int _ _; congr 1; omega), by first | rfl | (show AV.int _ _ = AV.int _ _; congr 1; omega), trivial⟩
theorem Bdq (k : Nat) (hk : 9 < k) (t f : Bool) (l : List UInt8) (hl : l.length ≤ 8) :
  FnV (Cp B xf gf (k + 1)) Bax [.islc t f 1 (BL l)] (if leN l ≤ 4611686018427387903 then .tup [.int .i64 (leN l : Nat), .bool true] else .tup [.int .i64 0, .bool false]) := by
 refine dA Bfo rfl ?_
 unfold ref01_Number
 repeat' (first | refine qQ ?_ | refine Ac (fun _ => ?_) (fun _ => ?_))
 refine (Ben (l := l) (t := t) (f := f) hl hk ?_).mono ?_
 ·exact ⟨rfl, rfl, rfl, trivial⟩
 rintro ex T2 H2 ⟨rfl, ⟨rfl, hle, h4⟩ | ⟨rfl, hle, h2, h3⟩⟩
 ·rw [Has.eq (T := T2) (ps := [(4, _)]) ⟨h4, trivial⟩, if_pos hle]
  simp only [over]
  show W _ _
  repeat' (first | refine qQ ?_ | refine Ac (fun _ => ?_) (fun _ => ?_))
  exact ⟨Or.inr rfl, _, rfl, rfl⟩
 ·rw [if_neg (by omega)]
  refine ⟨Or.inr rfl, .tup [T2 2, T2 3], rfl, ?_⟩
  rw [h2, h3]; rfl
theorem Bev (k : Nat) (hk : 9 < k) (t f : Bool) (l : List UInt8) (a : Nat) (ha : a + 4 ≤ l.length) (hl : l.length < 1000000) : FnV (Cp B xf gf (k + 2)) Bac [.islc t f 1 (BL l), .int .i64 a] (.int .i64 (leN ((l.drop a).take 4) : Nat)) := by
 have hlt := xU ((l.drop a).take 4)
 have hlen : ((l.drop a).take 4).length = 4 := by simp; omega
 rw [hlen] at hlt
 have e : (l.drop (a : Int).toNat).take (((a : Int) + 4).toNat - (a : Int).toNat) = (l.drop a).take 4 := by
  rw [Bd]
  congr 1
  omega
 have h := fun f => Bdq (xf := xf) (gf := gf) k hk t f ((l.drop a).take 4) (by omega)
 simp only [if_pos (show leN ((l.drop a).take 4) ≤ 4611686018427387903 by omega)] at h
 refine dA Bhr rfl ?_
 unfold Bcp
 repeat' (first | refine qS ?_ | (refine bN (h _) rfl (by rw [← e]; rfl) rfl ?_) | refine qQb ?_ | fail)
 exact ⟨Or.inr rfl, _, rfl, rfl⟩
theorem Bkh {cf : Dk} {base fuel : Nat} {H : Heap} {T : Tmps} {n : Nat} (hn : n < 4294967296) (hk : 8 < fuel) {v0 v1 v6 : AV} (hT : Has T [(5, .int .u32 n), (7, .int .i64 0), (0, v0), (1, v1), (6, v6)]) :
  W (Br cf xf base fuel (.loop Bcd) T H) (fun ex T' H' => ex = .exit 2 ∧ H' = H ∧ Has T' [(5, .int .u32 (bX 8 n)), (0, v0), (1, v1), (6, v6)]) := by
 refine eP (fun m T' H' => m ≤ 8 ∧ H' = H ∧ ∃ n' : Nat, n' < 4294967296 ∧ bX m n' = bX 8 n ∧ Has T' [(5, .int .u32 n'), (7, .int .i64 (8 - m : Int)), (0, v0), (1, v1), (6, v6)]) 8 ⟨by omega, rfl, n, hn, rfl, by simpa using hT⟩ hk ?_
 rintro m T H hm ⟨_, rfl, n', hn', hg, hT⟩
 rw [hT.eq]
 simp only [over]
 unfold Bcd
 have hd : (n' : Int) / 2 = ((n' / 2 : Nat) : Int) := by omega
 repeat' (first
  | refine qS ?_ | refine Axa rfl rfl (by omega) (by omega) rfl rfl ?_ | (refine Bkz rfl rfl (by omega) (by omega) rfl rfl ?_; rw [hd])
  | refine Atv rfl (by omega) (by decide) rfl rfl ?_ | refine qQ ?_ | refine Ac (fun _ => ?_) (fun _ => ?_))
 ·rename_i h1
  simp only [cmpP] at h1
  refine ⟨by omega, by omega, rfl, Azm n', kN hn', ?_, ?_, by show AV.int _ _ = _; congr 1; omega, rfl, rfl, rfl, trivial⟩
  ·rw [← hg]; obtain ⟨m', rfl⟩ : ∃ m', m = m' + 1 := ⟨m - 1, by omega⟩; rfl
  ·show AV.int _ _ = AV.int _ _
   rw [Azm, if_pos (by omega)]; rfl
 ·rename_i h1
  simp only [cmpP] at h1
  refine ⟨by omega, by omega, rfl, Azm n', kN hn', ?_, ?_, by show AV.int _ _ = _; congr 1; omega, rfl, rfl, rfl, trivial⟩
  ·rw [← hg]; obtain ⟨m', rfl⟩ : ∃ m', m = m' + 1 := ⟨m - 1, by omega⟩; rfl
  ·show AV.int _ _ = AV.int _ _
   rw [Azm, if_neg (by omega)]
 ·rename_i h1
  simp only [cmpP] at h1
  obtain rfl : m = 0 := by omega
  exact ⟨rfl, rfl, by rw [← hg]; rfl, rfl, rfl, rfl, trivial⟩
theorem Bjq {cf : Dk} {base fuel : Nat} {H : Heap} {T : Tmps} {n : Nat} {t f : Bool} {l : List UInt8} {v0 : AV} (hn : n < 4294967296) (hl : l.length < 1000000) (hk : 1000000 ≤ fuel)
  (hT : Has T [(5, .int .u32 n), (0, v0), (1, .islc t f 1 (BL l)), (6, .int .i64 0)]) :
  W (Br cf xf base fuel (.loop Bbv) T H) (fun ex T' H' => ex = .exit 0 ∧ H' = H ∧ T' 5 = .int .u32 (dZ n l)) := by
 refine eP (fun m T' H' => m ≤ l.length ∧ H' = H ∧ ∃ n' : Nat, n' < 4294967296 ∧ dZ n' (l.drop (l.length - m)) = dZ n l ∧ Has T' [(5, .int .u32 n'), (0, v0), (1, .islc t f 1 (BL l)), (6, .int .i64 (l.length - m : Int))])
  l.length ⟨by omega, rfl, n, hn, by simp, by simpa using hT⟩ (by omega) ?_
 rintro m T H hm ⟨_, rfl, n', hn', hg, hT⟩
 rw [hT.eq]
 simp only [over]
 unfold Bbv
 repeat' (first | refine qS ?_ | refine Ajf rfl (Aiq _) rfl rfl ?_ | refine Adk rfl rfl hn' (Aiq _) rfl rfl ?_ | refine qQ ?_ | refine Ac (fun _ => ?_) (fun _ => ?_))
 ·refine (Bkh (v0 := v0) (v1 := .islc t f 1 (BL l)) (v6 := .int .i64 (l.length - m : Int)) (fG (n := 32) (by omega) (by have := Abw (bAt l (l.length - m)); omega)) (by omega) ⟨rfl, rfl, rfl, rfl, rfl, trivial⟩).mono ?_
  rintro ex T2 H2 ⟨rfl, rfl, h2⟩
  rw [h2.eq]
  simp only [over]
  show W _ _
  repeat' (first | refine qQ ?_ | refine Ac (fun _ => ?_) (fun _ => ?_))
  have hd : l.drop (l.length - m) = bAt l (l.length - m) :: l.drop (l.length - (m - 1)) := by
   have hlt : l.length - m < l.length := by omega
   have e1 : ((l.length : Int) - m).toNat = l.length - m := by omega
   rw [show l.length - (m - 1) = l.length - m + 1 by omega, Cm hlt]
   simp [bAt, e1, hlt]
  refine ⟨by omega, by omega, rfl, _, sT (bAt l (l.length - m)) hn', ?_, rfl, rfl, rfl, by show AV.int _ _ = _; congr 1; omega, trivial⟩
  rw [← hg, hd]; rfl
 ·obtain rfl : m = 0 := by omega
  refine ⟨rfl, rfl, ?_⟩
  show AV.int _ _ = _
  rw [← hg]; simp [dZ]
theorem Bjo (k : Nat) (hk : 1000000 ≤ k) (t f : Bool) (l : List UInt8) (hl : l.length < 1000000) : FnV (Cp B xf gf (k + 2)) Bei [.islc t f 1 (BL l)] (.int .i64 (Ln 0 l)) := by
 have hm : FnV (Cp B xf gf (k + 1)) Bdb [.int .i64 0, .islc t f 1 (BL l)] (.int .i64 (Ln 0 l)) := by
  refine dA Bhe rfl ?_
  unfold ref01_More
  repeat' (first | refine qS ?_ | refine Ajf (a := 0) rfl (by omega) rfl rfl ?_ | refine Aen (a := 0) rfl (by omega) rfl rfl ?_ | refine qQ ?_ | refine Ac (fun _ => ?_) (fun _ => ?_))
  refine (Bjq (n := 4294967295) (l := l) (t := t) (f := f) (v0 := .int .i64 0) (by omega) hl hk ?_).mono ?_
  ·exact ⟨rfl, rfl, rfl, rfl, trivial⟩
  rintro ex T2 H2 ⟨rfl, rfl, h2⟩
  have hr : dZ 4294967295 l < 4294967296 := kF l (by omega)
  rw [Has.eq (T := T2) (ps := [(5, _)]) ⟨h2, trivial⟩]
  simp only [over]
  show W _ _
  repeat' (first | refine qS ?_ | refine Aen rfl hr rfl rfl ?_ | refine qQ ?_ | refine Ac (fun _ => ?_) (fun _ => ?_))
  refine ⟨Or.inr rfl, _, rfl, ?_⟩
  show AV.int _ _ = AV.int _ _
  congr 1
  show ((4294967295 - dZ 4294967295 l : Nat) : Int) = (4294967295 : Int) - (dZ 4294967295 l : Nat)
  omega
 refine dA Bhw rfl ?_
 unfold Bdy
 repeat' (first | refine qS ?_ | refine bN hm rfl rfl rfl ?_ | refine qQb ?_ | fail)
 exact ⟨Or.inr rfl, _, rfl, rfl⟩
theorem Bir (k : Nat) (hk : 1000000 ≤ k) (t f : Bool) (l : List UInt8) (hl : l.length < 1000000) : FnV (Cp B xf gf (k + 3)) Bah [.islc t f 1 (BL l)] (.bool (nA l)) := by
 by_cases h4 : 4 ≤ l.length
 ·have e : ((l.length : Int) - 4).toNat = l.length - 4 := by omega
  have ei : ((l.length : Int) - 4) = ((l.length - 4 : Nat) : Int) := by omega
  have hg := Bev (xf := xf) (gf := gf) k (by omega) t f l (l.length - 4) (by omega) hl
  rw [Ai (by simp; omega), ← ei] at hg
  have hs := fun f => Bjo (xf := xf) (gf := gf) k hk t f (l.take ((l.length : Int) - 4).toNat) (by simp; omega)
  refine dA Bdf rfl ?_
  unfold Bao
  repeat' (first | refine qS ?_ | refine qN ?_ | refine bN hg rfl rfl rfl ?_ | refine bN (hs _) rfl rfl rfl ?_ | refine qQb ?_ | refine Ac (fun _ => ?_) (fun _ => ?_))
  all_goals (refine ⟨Or.inr rfl, _, rfl, ?_⟩; show AV.bool _ = AV.bool _; congr 1; symm; rename_i h; simp only [cmpP] at h; rw [e] at h)
  ·exact As ⟨h4, h⟩
  ·exact Bb (fun hh => h hh.2)
 ·refine dA Bdf rfl ?_
  unfold Bao
  repeat' (first | refine qS ?_ | refine qN ?_ | refine qQb ?_ | refine Ac (fun _ => ?_) (fun _ => ?_))
  refine ⟨Or.inr rfl, _, rfl, ?_⟩
  show AV.bool _ = AV.bool _
  congr 1; symm
  exact Bb (fun hh => h4 hh.1)
theorem Biz (k : Nat) (hk : 9 < k) (t f : Bool) (l : List UInt8) (a : Nat) (ha : a + 8 ≤ l.length) (hl : l.length < 1000000) :
  FnV (Cp B xf gf (k + 2)) Bad [.islc t f 1 (BL l), .int .i64 a] (.tup [.int .i64 (getP l a 8).1, .bool (decide ((getP l a 8).2 = 0))]) := by
 have e : (l.drop (a : Int).toNat).take (((a : Int) + 8).toNat - (a : Int).toNat) = (l.drop a).take 8 := by
  rw [Bd]
  congr 1
  omega
 have h := fun f => Bdq (xf := xf) (gf := gf) k hk t f ((l.drop a).take 8) (by simp; omega)
 have hg : getP l a 8 = if leN ((l.drop a).take 8) ≤ 4611686018427387903 then ((leN ((l.drop a).take 8) : Int), 0) else (0, 1) := by
  unfold getP
  rw [if_pos ⟨by omega, by omega⟩, Bd]
 by_cases hle : leN ((l.drop a).take 8) ≤ 4611686018427387903
 ·rw [if_pos hle] at hg
  simp only [if_pos hle] at h
  rw [hg]
  refine dA Bdr rfl ?_
  unfold Bai
  repeat' (first | refine qS ?_ | (refine bN (h _) rfl (by rw [← e]; rfl) rfl ?_) | refine qQb ?_ | fail)
  exact ⟨Or.inr rfl, _, rfl, rfl⟩
 ·rw [if_neg hle] at hg
  simp only [if_neg hle] at h
  rw [hg]
  refine dA Bdr rfl ?_
  unfold Bai
  repeat' (first | refine qS ?_ | (refine bN (h _) rfl (by rw [← e]; rfl) rfl ?_) | refine qQb ?_ | fail)
  exact ⟨Or.inr rfl, _, rfl, rfl⟩
end Go.Proofs.YtkaiiopoilpjeaaGreat
set_option maxRecDepth 10000
set_option maxHeartbeats 16000000
namespace Go.Proofs.YtkaiiopoilpjeaaGreat
open Go.AI
attribute [local irreducible] aops Br Cp Dp aop W WO
theorem r_In (k : Nat) (hk : 1 ≤ k) (n lo hi : Int) : FnV (CF k) Bcw [.int .i64 n, .int .i64 lo, .int .i64 hi] (.bool (inR n lo hi)) := by
 obtain ⟨j, rfl⟩ : ∃ j, k = j + 1 := ⟨k - 1, by omega⟩
 exact Bif j n lo hi
theorem r_Id (k : Nat) (hk : 2 ≤ k) (n : Int) : FnV (CF k) Bct [.int .i64 n] (.bool (inR n 1 4611686018427387903)) := by
 obtain ⟨j, rfl⟩ : ∃ j, k = j + 2 := ⟨k - 2, by omega⟩
 exact Bkr j n
theorem r_in (k : Nat) (hk : 1 ≤ k) (n lo hi : Int) : FnV (CF k) Bfi [.int .i64 n, .int .i64 lo, .int .i64 hi] (.bool (inR n lo hi)) := by
  refine fnk (by omega) Bis rfl ?_
  unfold Bfa
  repeat' (first | refine qS ?_ | refine qN ?_ | refine qQb ?_ | refine Ac (fun _ => ?_) (fun _ => ?_))
  all_goals first
    | (refine ⟨Or.inr rfl, _, rfl, ?_⟩
       simp only [cmpP] at *
       show AV.bool _ = AV.bool _
       congr 1
       first
         | exact (inR_iff.2 (by omega)).symm
         | exact (inR_f.2 (by omega)).symm)
    | (exfalso; simp only [cmpP] at *; omega)
def Ayr (n b : Nat) : Bool := decide (n = 0 ∨ 2 ≤ n ∧ n < b)
theorem Beu (k : Nat) (hk : 2 ≤ k) (n b : Nat) (hb : b < 4611686018427387904) : FnV (CF k) Bdm [.int .i64 n, .int .i64 b] (.bool (Ayr n b)) := by
 have hi := r_In (k - 1) (by omega) n 2 ((b : Int) - 1)
 refine fnk (by omega) Bhj rfl ?_
 unfold Bcv Ayr
 by_cases h0 : n = 0
 ·have h0' : (n : Int) = 0 := by omega
  rw [As (.inl h0)]
  repeat' (first | refine qS ?_ | refine qN ?_ | refine Ae hi ?_ | refine qQb ?_ | refine Ac (fun _ => ?_) (fun _ => ?_))
  exact ⟨Or.inr rfl, _, rfl, rfl⟩
 ·have h0' : (n : Int) ≠ 0 := by omega
  have e : inR n 2 ((b : Int) - 1) = decide (n = 0 ∨ 2 ≤ n ∧ n < b) := by
   by_cases h : 2 ≤ n ∧ n < b
   ·rw [As (.inr h)]; exact inR_iff.2 (by omega)
   ·rw [Bb (fun hh => hh.elim h0 h)]; exact inR_f.2 (by omega)
  rw [e] at hi
  repeat' (first | refine qS ?_ | refine qN ?_ | refine Ae hi ?_ | refine qQb ?_ | refine Ac (fun _ => ?_) (fun _ => ?_))
  exact ⟨Or.inr rfl, _, rfl, rfl⟩
theorem Bff (k : Nat) (hk : 2 ≤ k) (t f : Bool) (l : List UInt8) (hl : l.length < 1000000) : FnV (CF k) Ayf [.islc t f 1 (BL l)] (.tup [.int .i64 (l.length / 64 : Nat), .bool (decide (devB l.length))]) := by
 have hi := r_In (k - 1) (by omega) ((l.length : Int) / 64) 4 4096
 have hdv : ((l.length / 64 : Nat) : Int) = (l.length : Int) / 64 := by omega
 rw [hdv]
 refine fnk (by omega) Bez rfl ?_
 unfold Bae
 by_cases hm : l.length % 64 = 0
 ·have hm' : (l.length : Int) % 64 = 0 := by omega
  have e : inR ((l.length : Int) / 64) 4 4096 = decide (devB l.length) := by
   by_cases h : devB l.length
   ·rw [As h]; unfold devB at h; exact inR_iff.2 (by omega)
   ·rw [Bb h]; unfold devB at h; exact inR_f.2 (by omega)
  rw [e] at hi
  repeat' (first | refine qS ?_ | refine qN ?_ | refine Ae hi ?_ | refine qQ ?_ | refine Ac (fun _ => ?_) (fun _ => ?_))
  exact ⟨Or.inr rfl, _, rfl, rfl⟩
 ·have hm' : (l.length : Int) % 64 ≠ 0 := by omega
  rw [Bb (fun h : devB l.length => by unfold devB at h; omega)]
  repeat' (first | refine qS ?_ | refine qN ?_ | refine Ae hi ?_ | refine qQ ?_ | refine Ac (fun _ => ?_) (fun _ => ?_))
  exact ⟨Or.inr rfl, _, rfl, rfl⟩
theorem Bll (k : Nat) (hk : 3 ≤ k) (s : Sup) (hs : s.gen < 4611686018427387904 ∧ s.blocks < 4611686018427387904 ∧ s.root < 4611686018427387904 ∧ s.size < 4611686018427387904 ∧ s.first < 4611686018427387904) : FnV (CF k) Bch [s.av] (.bool (decide s.ok)) := by
 have hi := fun n lo hi => r_In (k - 1) (by omega) n lo hi
 have h1 := Beu (k - 1) (by omega) s.root s.blocks hs.2.1
 have h2 := Beu (k - 1) (by omega) s.first s.blocks hs.2.1
 have g1 := hi s.gen 1 1099511627776
 have g2 := hi s.blocks 4 4096
 have g3 := hi s.size 0 512
 obtain ⟨g, b, r, z, fi⟩ := s
 unfold Sup.av
 simp only at *
 have e : decide (Sup.ok ⟨g, b, r, z, fi⟩) = (inR g 1 1099511627776 && inR b 4 4096 && inR z 0 512 && Ayr r b && Ayr fi b) := by
  rw [Aye, Dl]
  unfold Sup.ok
  simp only [Cl, inR_iff, Ayr, Dl]
  constructor
  ·rintro ⟨⟨h1, h2⟩, ⟨h3, h4⟩, h5, h6, h7⟩
   exact ⟨⟨⟨⟨⟨by omega, by omega⟩, by omega, by omega⟩, by omega, by omega⟩, h6⟩, h7⟩
  ·rintro ⟨⟨⟨⟨⟨h1, h2⟩, h3, h4⟩, h5, h6⟩, h7⟩, h8⟩
   exact ⟨⟨by omega, by omega⟩, ⟨by omega, by omega⟩, by omega, h7, h8⟩
 rw [e]
 refine fnk (by omega) Bfw rfl ?_
 unfold Bbn
 cases e1 : inR g 1 1099511627776 <;> cases e2 : inR b 4 4096 <;> cases e3 : inR z 0 512 <;> cases e4 : Ayr r b <;> cases e5 : Ayr fi b
 all_goals
  rw [e1] at g1
  rw [e2] at g2
  rw [e3] at g3
  rw [e4] at h1
  rw [e5] at h2
  repeat' (first | refine qS ?_ | refine qN ?_ | refine Ae g1 ?_ | refine Ae g2 ?_ | refine Ae g3 ?_ | refine Ae h1 ?_ | refine Ae h2 ?_ | refine qQb ?_ | fail)
  exact ⟨Or.inr rfl, _, rfl, rfl⟩
theorem Bha (k : Nat) (hk : 1000001 ≤ k) (t f : Bool) (l : List UInt8) (a c : Nat) (hl : l.length < 1000000) (ha : a < 1000000) (hc : c < 1000000) : FnV (CF k) Bbu [.islc t f 1 (BL l), .int .i64 a, .int .i64 c] (.bool (Oi l a c)) := by
 refine fnk (by omega) Bga rfl ?_
 unfold Bbo
 repeat' (first | refine qS ?_ | refine qN ?_ | refine qQb ?_ | refine Ac (fun _ => ?_) (fun _ => ?_))
 refine W.mono (Q := fun ex T' H' => (ex = .ret ∧ Oi l a c = false ∧ T' 6 = .bool false) ∨ (ex = .exit 0 ∧ Oi l a c = true)) ?_ ?_
 ·refine Fj (min c l.length - a) (fun i T' H' => Oi l a c = Oi l (a + i) c ∧ Has T' [(0, .islc t f 1 (BL l)), (2, .int .i64 c), (7, .int .i64 ((a + i : Nat) : Int))]) ⟨rfl, rfl, rfl, by show AV.int _ _ = AV.int _ _; congr 1; omega, trivial⟩ (by omega) ?_
  rintro i T H hi ⟨hgo, hT⟩
  rw [hT.eq]
  simp only [over]
  by_cases hil : i < min c l.length - a
  ·have hd : (l.take c).drop (a + i) = bAt l ((a + i : Nat) : Int) :: (l.take c).drop (a + i + 1) := by
    rw [Cm (by simp; omega)]
    congr 1
    simp only [bAt, Bd]
    simp [show a + i < l.length by omega]
   have hz : Oi l (a + i) c = ((bAt l ((a + i : Nat) : Int) == 0) && Oi l (a + (i + 1)) c) := by
    unfold Oi
    rw [hd, Bee]
    rfl
   repeat' (first | refine qS ?_ | refine qN ?_ | refine qQb ?_ | refine Ac (fun _ => ?_) (fun _ => ?_))
   ·rename_i h
    simp only [cmpP] at h
    refine .inl ⟨rfl, ?_, rfl⟩
    rw [hgo, hz, Bool.and_eq_false_iff]
    refine .inl (beq_eq_false_iff_ne.2 fun hh => h ?_)
    rw [hh]; rfl
   ·rename_i h
    simp only [cmpP] at h
    refine ⟨hil, ?_, rfl, rfl, by show AV.int _ _ = AV.int _ _; congr 1, trivial⟩
    rw [hgo, hz]
    have : bAt l ((a + i : Nat) : Int) = 0 := UInt8.toNat_inj.1 (by have := Dm.1 h; simp at this ⊢; omega)
    rw [this]; rfl
  ·have hz : Oi l (a + i) c = true := by
    unfold Oi
    rw [Ce (by simp; omega)]; rfl
   by_cases hac : a + i < c
   ·have hal : l.length ≤ a + i := by omega
    repeat' (first | refine qS ?_ | refine qN ?_ | refine qQb ?_ | refine Ac (fun _ => ?_) (fun _ => ?_))
    exact .inr ⟨rfl, by rw [hgo, hz]⟩
   ·skip
    repeat' (first | refine qS ?_ | refine qN ?_ | refine qQb ?_ | refine Ac (fun _ => ?_) (fun _ => ?_))
    exact .inr ⟨rfl, by rw [hgo, hz]⟩
 rintro ex T2 H2 (⟨rfl, h1, h2⟩ | ⟨rfl, h1⟩)
 ·refine ⟨Or.inr rfl, _, rfl, ?_⟩
  show fz true 6 H2 (T2 6) = _
  rw [h2, h1]; rfl
 ·rw [h1]
  show W _ _
  repeat' (first | refine qS ?_ | refine qN ?_ | refine qQb ?_ | refine Ac (fun _ => ?_) (fun _ => ?_))
  exact ⟨Or.inr rfl, _, rfl, rfl⟩
theorem Bmi (k : Nat) (hk : 1000001 ≤ k) (t f : Bool) (s : Nat) (l : List Nat) (a : Nat) (hl : l.length < 1000000) (hs : s = 1 ∨ l = []) : FnV (CF k) Bbc [.islc t f s (NL l), .int .i64 a] (.bool (l.any (a == ·))) := by
 refine fnk (by omega) Bih rfl ?_
 unfold Bdz
 repeat' (first | refine qQb ?_ | refine Ac (fun _ => ?_) (fun _ => ?_))
 refine W.mono (Q := fun ex T' H' => (ex = .ret ∧ l.any (a == ·) = true ∧ T' 4 = .bool true) ∨ (ex = .exit 0 ∧ l.any (a == ·) = false)) ?_ ?_
 ·refine Fj l.length (fun i T' H' => l.any (a == ·) = (l.drop i).any (a == ·) ∧ Has T' [(0, .islc t f s (NL l)), (1, .int .i64 a), (5, .int .i64 (i : Nat))]) ⟨rfl, rfl, rfl, rfl, trivial⟩ (by omega) ?_
  rintro i T H hi ⟨hgo, hT⟩
  rw [hT.eq]
  simp only [over]
  by_cases hil : i < l.length
  ·obtain rfl : s = 1 := hs.resolve_right (fun h => by rw [h] at hil; simp at hil)
   obtain ⟨b, hb⟩ : ∃ b, b = l.getD i default := ⟨_, rfl⟩
   rw [Qo hil, Azj, ← hb] at hgo
   by_cases hab : b = a
   ·have hab' : (b : Int) = a := by omega
    repeat' (first | refine qS ?_ | refine Bh (n := l.length) rfl (Bm _) rfl rfl ?_ | refine Ll (enc := nav) b rfl rfl (by omega) (by omega) hb.symm rfl rfl ?_ | refine qQb ?_ | refine Ac (fun _ => ?_) (fun _ => ?_))
    exact .inl ⟨rfl, by rw [hgo, hab]; simp, rfl⟩
   ·have hab' : (b : Int) ≠ a := by omega
    repeat' (first | refine qS ?_ | refine Bh (n := l.length) rfl (Bm _) rfl rfl ?_ | refine Ll (enc := nav) b rfl rfl (by omega) (by omega) hb.symm rfl rfl ?_ | refine qQb ?_ | refine Ac (fun _ => ?_) (fun _ => ?_))
    exact ⟨hil, by rw [hgo]; simp [show a ≠ b from fun h => hab h.symm], rfl, rfl, by show AV.int _ _ = AV.int _ _; congr 1, trivial⟩
  ·have hin : i = l.length := by omega
   repeat' (first | refine qS ?_ | refine Bh (n := l.length) rfl (Bm _) rfl rfl ?_ | refine qQb ?_ | refine Ac (fun _ => ?_) (fun _ => ?_))
   exact .inr ⟨rfl, by rw [hgo, hin, Lh]; rfl⟩
 rintro ex T2 H2 (⟨rfl, h1, h2⟩ | ⟨rfl, h1⟩)
 ·refine ⟨Or.inr rfl, _, rfl, ?_⟩
  show fz true 6 H2 (T2 4) = _
  rw [h2, h1]; rfl
 ·rw [h1]
  show W _ _
  repeat' (first | refine qQb ?_ | refine Ac (fun _ => ?_) (fun _ => ?_))
  exact ⟨Or.inr rfl, _, rfl, rfl⟩
def Ayu (b m : List UInt8) : Int := if b.length ≠ 64 then 2 else if b.take 4 ≠ m then 4 else if nA b = false then 5 else 0
theorem Bit (k : Nat) (hk : 1000010 ≤ k) (t f : Bool) (b m : List UInt8) (hb : b.length < 1000000) : FnV (CF k) Bda [.islc t f 1 (BL b), strV m] (.int .i64 (Ayu b m)) := by
 have hg : FnV (CF (k - 1)) Bah [.islc t f 1 (BL b)] (.bool (nA b)) := by
  obtain ⟨j, hj⟩ : ∃ j, k - 1 = j + 3 := ⟨k - 4, by omega⟩
  rw [hj]
  exact Bir j (by omega) t f b hb
 have hlb : (BL b).length = b.length := by simp
 refine fnk (by omega) Bhb rfl ?_
 unfold Bcs Ayu
 by_cases h1 : b.length = 64
 ·rw [if_neg (by omega)]
  by_cases h2 : b.take 4 = m
  ·rw [if_neg (fun h => h h2)]
   subst h2
   cases h3 : nA b with
   | true =>
    rw [h3] at hg
    rw [if_neg (by decide)]
    repeat' (first
     | refine qS ?_ | refine Ae hg ?_ | refine Cr (n := b.length) (a := 0) (b := 4) rfl (.inl rfl) hlb rfl (Ev rfl) (Ep _) (by omega) rfl rfl ?_
     | refine Awf (l := b.take 4) (by show AV.islc _ _ _ (((BL b).drop 0).take (4 - 0)) = _; rw [Cb, Aam]) (.inl rfl) rfl rfl ?_
     | refine xB rfl rfl rfl rfl rfl ?_ | refine qQb ?_ | refine Ac (fun _ => ?_) (fun _ => ?_))
    exact ⟨Or.inr rfl, _, rfl, rfl⟩
   | false =>
    rw [h3] at hg
    rw [if_pos rfl]
    repeat' (first
     | refine qS ?_ | refine Ae hg ?_ | refine Cr (n := b.length) (a := 0) (b := 4) rfl (.inl rfl) hlb rfl (Ev rfl) (Ep _) (by omega) rfl rfl ?_
     | refine Awf (l := b.take 4) (by show AV.islc _ _ _ (((BL b).drop 0).take (4 - 0)) = _; rw [Cb, Aam]) (.inl rfl) rfl rfl ?_
     | refine xB rfl rfl rfl rfl rfl ?_ | refine qQb ?_ | refine Ac (fun _ => ?_) (fun _ => ?_))
    exact ⟨Or.inr rfl, _, rfl, rfl⟩
  ·rw [if_pos h2]
   repeat' (first
    | refine qS ?_ | refine Ae hg ?_ | refine Cr (n := b.length) (a := 0) (b := 4) rfl (.inl rfl) hlb rfl (Ev rfl) (Ep _) (by omega) rfl rfl ?_
    | refine Awf (l := b.take 4) (by show AV.islc _ _ _ (((BL b).drop 0).take (4 - 0)) = _; rw [Cb, Aam]) (.inl rfl) rfl rfl ?_ | refine Aqs rfl rfl h2 rfl rfl ?_
    | refine qQb ?_ | refine Ac (fun _ => ?_) (fun _ => ?_))
   exact ⟨Or.inr rfl, _, rfl, rfl⟩
 ·rw [if_pos h1]
  have h1' : (b.length : Int) ≠ 64 := by omega
  repeat' (first | refine qQb ?_ | refine Ac (fun _ => ?_) (fun _ => ?_))
  exact ⟨Or.inr rfl, _, rfl, rfl⟩
theorem Bky (k : Nat) (hk : 4 ≤ k) (r : Rec) : FnV (CF k) Bbp [r.av] (.bool (decide r.ok)) := by
 obtain ⟨nx, id, pa, ro, sz, kd, fr, dg⟩ := r
 have l1 := Beu (k - 1) (by omega) nx 4096 (by decide)
 have l2 := Beu (k - 1) (by omega) ro 4096 (by decide)
 have i1 := r_Id (k - 1) (by omega) (id : Int)
 have i2 := r_Id (k - 1) (by omega) (pa : Int)
 have n1 := r_In (k - 1) (by omega) (sz : Int) 0 512
 have n2 := r_In (k - 1) (by omega) (fr : Int) 1 65535
 have n3 := r_In (k - 1) (by omega) (dg : Int) 0 4294967295
 have hok : Rec.ok ⟨nx, id, pa, ro, sz, kd, fr, dg⟩ ↔ (Ayr nx 4096 = true ∧ Ayr ro 4096 = true ∧ inR id 1 4611686018427387903 = true ∧ (pa = 0 ∨ inR pa 1 4611686018427387903 = true) ∧ pa ≠ id ∧ inR sz 0 512 = true ∧ (kd = 0 ∧ fr = 0 ∧ dg = 0 ∨ kd = 1 ∧ inR fr 1 65535 = true ∧ inR dg 0 4294967295 = true)) := by
  unfold Rec.ok ptrOk mB Ayr
  simp only [inR_iff, Dl]
  omega
 unfold Rec.av
 simp only
 refine fnk (by omega) Bfc rfl ?_
 unfold Bak
 cases e1 : Ayr nx 4096 with
 | false =>
  rw [e1] at l1
  rw [Bb (fun h => by have := (hok.1 h).1; rw [e1] at this; cases this)]
  repeat' (first | refine qS ?_ | refine qN ?_ | refine Ae l1 ?_ | refine qQb ?_ | refine Ac (fun _ => ?_) (fun _ => ?_))
  exact ⟨Or.inr rfl, _, rfl, rfl⟩
 | true =>
  rw [e1] at l1
  cases e2 : Ayr ro 4096 with
  | false =>
   rw [e2] at l2
   rw [Bb (fun h => by have := (hok.1 h).2.1; rw [e2] at this; cases this)]
   repeat' (first | refine qS ?_ | refine qN ?_ | refine Ae l1 ?_ | refine Ae l2 ?_ | refine qQb ?_ | refine Ac (fun _ => ?_) (fun _ => ?_))
   exact ⟨Or.inr rfl, _, rfl, rfl⟩
  | true =>
   rw [e2] at l2
   cases e3 : inR id 1 4611686018427387903 with
   | false =>
    rw [e3] at i1
    rw [Bb (fun h => by have := (hok.1 h).2.2.1; rw [e3] at this; cases this)]
    repeat' (first | refine qS ?_ | refine qN ?_ | refine Ae l1 ?_ | refine Ae l2 ?_ | refine Ae i1 ?_ | refine qQb ?_ | refine Ac (fun _ => ?_) (fun _ => ?_))
    exact ⟨Or.inr rfl, _, rfl, rfl⟩
   | true =>
    rw [e3] at i1
    have hid := inR_iff.1 e3
    by_cases hp : pa = 0 ∨ inR pa 1 4611686018427387903 = true
    ·by_cases hpi : pa = id
     ·rw [Bb (fun h => (hok.1 h).2.2.2.2.1 hpi)]
      have hp0 : (pa : Int) ≠ 0 := by omega
      have hpi' : (pa : Int) = id := by omega
      rw [hp.resolve_left (by omega)] at i2
      repeat' (first | refine qS ?_ | refine qN ?_ | refine Ae l1 ?_ | refine Ae l2 ?_ | refine Ae i1 ?_ | refine Ae i2 ?_ | refine qQb ?_ | refine Ac (fun _ => ?_) (fun _ => ?_))
      exact ⟨Or.inr rfl, _, rfl, rfl⟩
     ·have hpi' : (pa : Int) ≠ id := by omega
      cases e5 : inR sz 0 512 with
      | false =>
       rw [e5] at n1
       rw [Bb (fun h => by have := (hok.1 h).2.2.2.2.2.1; rw [e5] at this; cases this)]
       by_cases hp0 : pa = 0
       ·have hp0' : (pa : Int) = 0 := by omega
        repeat' (first | refine qS ?_ | refine qN ?_ | refine Ae l1 ?_ | refine Ae l2 ?_ | refine Ae i1 ?_ | refine Ae n1 ?_ | refine qQb ?_ | refine Ac (fun _ => ?_) (fun _ => ?_))
        exact ⟨Or.inr rfl, _, rfl, rfl⟩
       ·have hp0' : (pa : Int) ≠ 0 := by omega
        rw [hp.resolve_left hp0] at i2
        repeat' (first | refine qS ?_ | refine qN ?_ | refine Ae l1 ?_ | refine Ae l2 ?_ | refine Ae i1 ?_ | refine Ae i2 ?_ | refine Ae n1 ?_ | refine qQb ?_ | refine Ac (fun _ => ?_) (fun _ => ?_))
        exact ⟨Or.inr rfl, _, rfl, rfl⟩
      | true =>
       rw [e5] at n1
       have hdec : decide (Rec.ok ⟨nx, id, pa, ro, sz, kd, fr, dg⟩) = decide (kd = 0 ∧ fr = 0 ∧ dg = 0 ∨ kd = 1 ∧ inR fr 1 65535 = true ∧ inR dg 0 4294967295 = true) := by
        rw [Aye, Dl, Dl, hok]
        exact ⟨fun h => h.2.2.2.2.2.2, fun h => ⟨e1, e2, e3, hp, hpi, e5, h⟩⟩
       rw [hdec]
       have hkk : kd = 0 ∨ kd = 1 ∨ 2 ≤ kd := by omega
       by_cases hp0 : (pa : Int) = 0
       rotate_left 1
       rw [hp.resolve_left (by omega)] at i2
       all_goals
        rcases hkk with hk0 | hk1 | hk2
        ·have hk0' : (kd : Int) = 0 := by omega
         by_cases hf : fr = 0
         ·have hf' : (fr : Int) = 0 := by omega
          by_cases hd : dg = 0
          ·have hd' : (dg : Int) = 0 := by omega
           rw [As (.inl ⟨hk0, hf, hd⟩)]
           repeat' (first
            | refine qS ?_ | refine qN ?_ | refine Ae l1 ?_ | refine Ae l2 ?_ | refine Ae i1 ?_ | refine Ae i2 ?_ | refine Ae n1 ?_ | refine Ae n2 ?_
            | refine Ae n3 ?_ | refine qQb ?_ | refine Ac (fun _ => ?_) (fun _ => ?_))
           exact ⟨Or.inr rfl, _, rfl, rfl⟩
          ·have hd' : (dg : Int) ≠ 0 := by omega
           rw [Bb (fun h => h.elim (fun h => hd h.2.2) (fun h => by omega))]
           repeat' (first
            | refine qS ?_ | refine qN ?_ | refine Ae l1 ?_ | refine Ae l2 ?_ | refine Ae i1 ?_ | refine Ae i2 ?_ | refine Ae n1 ?_ | refine Ae n2 ?_
            | refine Ae n3 ?_ | refine qQb ?_ | refine Ac (fun _ => ?_) (fun _ => ?_))
           exact ⟨Or.inr rfl, _, rfl, rfl⟩
         ·have hf' : (fr : Int) ≠ 0 := by omega
          rw [Bb (fun h => h.elim (fun h => hf h.2.1) (fun h => by omega))]
          repeat' (first
           | refine qS ?_ | refine qN ?_ | refine Ae l1 ?_ | refine Ae l2 ?_ | refine Ae i1 ?_ | refine Ae i2 ?_ | refine Ae n1 ?_ | refine Ae n2 ?_
           | refine Ae n3 ?_ | refine qQb ?_ | refine Ac (fun _ => ?_) (fun _ => ?_))
          exact ⟨Or.inr rfl, _, rfl, rfl⟩
        ·have hk1' : (kd : Int) = 1 := by omega
         cases e6 : inR fr 1 65535 with
         | false =>
          rw [e6] at n2
          rw [Bb (fun h => h.elim (fun h => by omega) (fun h => by cases h.2.1))]
          repeat' (first
           | refine qS ?_ | refine qN ?_ | refine Ae l1 ?_ | refine Ae l2 ?_ | refine Ae i1 ?_ | refine Ae i2 ?_ | refine Ae n1 ?_ | refine Ae n2 ?_
           | refine Ae n3 ?_ | refine qQb ?_ | refine Ac (fun _ => ?_) (fun _ => ?_))
          exact ⟨Or.inr rfl, _, rfl, rfl⟩
         | true =>
          rw [e6] at n2
          cases e7 : inR dg 0 4294967295 with
          | false =>
           rw [e7] at n3
           rw [Bb (fun h => h.elim (fun h => by omega) (fun h => by cases h.2.2))]
           repeat' (first
            | refine qS ?_ | refine qN ?_ | refine Ae l1 ?_ | refine Ae l2 ?_ | refine Ae i1 ?_ | refine Ae i2 ?_ | refine Ae n1 ?_ | refine Ae n2 ?_
            | refine Ae n3 ?_ | refine qQb ?_ | refine Ac (fun _ => ?_) (fun _ => ?_))
           exact ⟨Or.inr rfl, _, rfl, rfl⟩
          | true =>
           rw [e7] at n3
           rw [As (.inr ⟨hk1, rfl, rfl⟩)]
           repeat' (first
            | refine qS ?_ | refine qN ?_ | refine Ae l1 ?_ | refine Ae l2 ?_ | refine Ae i1 ?_ | refine Ae i2 ?_ | refine Ae n1 ?_ | refine Ae n2 ?_
            | refine Ae n3 ?_ | refine qQb ?_ | refine Ac (fun _ => ?_) (fun _ => ?_))
           exact ⟨Or.inr rfl, _, rfl, rfl⟩
        ·have hk2' : (2 : Int) ≤ kd := by omega
         rw [Bb (fun h => h.elim (fun h => by omega) (fun h => by omega))]
         repeat' (first
          | refine qS ?_ | refine qN ?_ | refine Ae l1 ?_ | refine Ae l2 ?_ | refine Ae i1 ?_ | refine Ae i2 ?_ | refine Ae n1 ?_ | refine Ae n2 ?_
          | refine Ae n3 ?_ | refine qQb ?_ | refine Ac (fun _ => ?_) (fun _ => ?_))
         exact ⟨Or.inr rfl, _, rfl, rfl⟩
    ·rw [Bb (fun h => hp (hok.1 h).2.2.2.1)]
     have hp0 : (pa : Int) ≠ 0 := fun h => hp (.inl (by omega))
     have hpf : inR pa 1 4611686018427387903 = false := by
      cases h : inR pa 1 4611686018427387903 with
      | false => rfl
      | true => exact absurd (.inr h) hp
     rw [hpf] at i2
     repeat' (first | refine qS ?_ | refine qN ?_ | refine Ae l1 ?_ | refine Ae l2 ?_ | refine Ae i1 ?_ | refine Ae i2 ?_ | refine qQb ?_ | refine Ac (fun _ => ?_) (fun _ => ?_))
     exact ⟨Or.inr rfl, _, rfl, rfl⟩
end Go.Proofs.YtkaiiopoilpjeaaGreat
