import Derived.Test.YtkaiiopoilpjeaaQ1
import Derived.Test.YtkaiiopoilpjeaaME2
import Derived.Test.YtkaiiopoilpjeaaA31
set_option linter.unusedSimpArgs false
set_option linter.unusedVariables false
set_option maxRecDepth 10000
set_option maxHeartbeats 16000000
namespace Go.AI
section
variable {cf : Cx} {xf : ExtF} {base : Nat} {T : Tmps} {H : Heap} {QO : Tmps → Heap → Prop} {log : List FP} {g : Option (Nat × Bool)} {un : List Nat} {r : List SOper} {d : Nat}
theorem upd_self {H : Heap} {j : Nat} {b : Blk} (h : H j = b) : H.upd j b = H := by
 funext i
 rw [Heap.upd_eq]
 split
 ·rename_i e; rw [e, h]
 ·rfl
theorem wS {site gn j v j2 g2 v2 off len s : Nat} {ro : Bool} {x y : SArg} {es es2 m : List AV} {cap2 : Option Nat} (hx : x.ev T = .slc j gn v s 0 v .none) (hy : y.ev T = .slc j2 g2 v2 s off len cap2) (h2 : H j2 = ⟨g2, ro, .row s es2⟩) (hv2 : es2.length = v2) (ho : off + len ≤ v2) (hm : (es2.drop off).take len = m) (hr : H j = ⟨gn, false, .row s es⟩) (hv : es.length = v) (he : Bq m = true) (hb : v + m.length ≤ 68719476736)
  (hw : Af T g = some true) (hl : un = [])
  (h : ∀ fp, WO (aops cf xf base r (log ++ [fp]) (T.upd d (.slc j gn (v + m.length) s 0 (v + m.length) .none)) (H.upd j ⟨gn, false, .row s (es ++ m)⟩)) QO) :
  WO (aops cf xf base (⟨some d, .app site s x y, g, un⟩ :: r) log T H) QO := by
 cases hm0 : Fz m with
 | false =>
  subst hl
  refine Aq (v := .slc j gn (v + m.length) s 0 (v + m.length) .none) (H' := H.upd j ⟨gn, false, .row s (es ++ m)⟩) (fp := ⟨[j2] ++ [] ++ [j], [] ++ [j], false⟩) hw ?_ rfl (h _)
  have e1 : Ch H s (.slc j2 g2 v2 s off len cap2) = some (m, [j2]) := by
   simp only [Ch, Ek h2 hv2]
   rw [if_pos ⟨trivial, ho⟩, hm]
  have e2 : Du H m = some (m, H, []) := by
   cases m with
   | nil => cases hm0
   | cons a m => simp [Du, he]
  simp only [aop, hx, hy, Gv, e1, e2, Ac, Aa]
  simp only [Dc, hm0, Ap, Bx, Ip hr hv]
  rw [if_pos ⟨trivial, by omega, by simpa [Gz] using hb⟩]
  rw [if_neg (by cases m with | nil => cases hm0 | cons a m => simp)]
  rw [if_pos ⟨trivial, trivial⟩, Gn hr]
  rfl
 | true =>
  obtain rfl : m = [] := by cases m with | nil => rfl | cons a m => cases hm0
  subst hl
  rw [Bt, upd_self hr] at h
  refine Aq (v := .slc j gn v s 0 v .none) (H' := H) (fp := ⟨[j2] ++ [] ++ [], [] ++ [], false⟩) hw ?_ rfl (h _)
  have e1 : Ch H s (.slc j2 g2 v2 s off len cap2) = some ([], [j2]) := by
   simp only [Ch, Ek h2 hv2]
   rw [if_pos ⟨trivial, ho⟩, hm]
  have e2 : Du H [] = some ([], H, []) := rfl
  simp only [aop, hx, hy, Gv, e1, e2, Ac, Aa]
  rfl
theorem wI {site j2 g2 v2 off len s s' : Nat} {t ro : Bool} {x y : SArg} {es2 m : List AV} {cap2 : Option Nat} (hx : x.ev T = .islc t true s' []) (hy : y.ev T = .slc j2 g2 v2 s off len cap2) (h2 : H j2 = ⟨g2, ro, .row s es2⟩) (hv2 : es2.length = v2) (ho : off + len ≤ v2) (hm : (es2.drop off).take len = m) (hm0 : Fz m = false) (he : Bq m = true) (hb : m.length ≤ 68719476736)
  (hw : Af T g = some true) (hl : Av log ⟨[j2], [base + site], false⟩ un = true)
  (h : WO (aops cf xf base r (log ++ [⟨[j2], [base + site], false⟩]) (T.upd d (.slc (base + site) ((H (base + site)).gen + 1) m.length s 0 m.length .none)) (H.newRow (base + site) s m)) QO) :
  WO (aops cf xf base (⟨some d, .app site s x y, g, un⟩ :: r) log T H) QO := by
 refine Aq (v := .slc (base + site) ((H (base + site)).gen + 1) m.length s 0 m.length .none) (H' := H.newRow (base + site) s m) (fp := ⟨[j2], [base + site], false⟩) hw ?_ hl h
 have e1 : Ch H s (.slc j2 g2 v2 s off len cap2) = some (m, [j2]) := by
  simp only [Ch, Ek h2 hv2]
  rw [if_pos ⟨trivial, ho⟩, hm]
 have e2 : Du H m = some (m, H, []) := by
  cases m with
  | nil => cases hm0
  | cons a m => simp [Du, he]
 simp only [aop, hx, hy, Gv, e1, e2, Ac, Aa]
 simp only [Dc, hm0, Ap, Bx]
 rw [if_pos (by simpa [Fz, Gz] using hb)]
 rfl
theorem rA {site j2 g2 v2 off s s' : Nat} {t f ro : Bool} {x y : SArg} {es es2 : List AV} {cap2 : Option Nat} (hx : x.ev T = .islc t f s' es) (hy : y.ev T = .slc j2 g2 v2 s off 0 cap2) (h2 : H j2 = ⟨g2, ro, .row s es2⟩) (hv2 : es2.length = v2) (ho : off ≤ v2)
  (hw : Af T g = some true) (hl : Av log ⟨[j2], [], false⟩ un = true)
  (h : WO (aops cf xf base r (log ++ [⟨[j2], [], false⟩]) (T.upd d (.islc t f s' es)) H) QO) :
  WO (aops cf xf base (⟨some d, .app site s x y, g, un⟩ :: r) log T H) QO := by
 refine Aq (v := .islc t f s' es) (H' := H) (fp := ⟨[j2], [], false⟩) hw ?_ hl h
 have e1 : Ch H s (.slc j2 g2 v2 s off 0 cap2) = some ([], [j2]) := by
  simp only [Ch, Ek h2 hv2]
  rw [if_pos ⟨trivial, by omega⟩, Ix]
 have e2 : Du H [] = some ([], H, []) := rfl
 simp only [aop, hx, hy, Gv, e1, e2, Ac, Aa]
 rfl
end
end Go.AI
namespace Go.Proofs.Ytkaiiopoilpjeaa
open Go.AI
def Ov : List Nat → List Nat
 | [] => []
 | _ :: r => r.headD 0 :: Ov r
theorem Wq : ∀ l : List Nat, (Ov l).length = l.length
 | [] => rfl
 | _ :: r => by unfold Ov; rw [As, As, Wq r]
theorem eT : ∀ (l : List Nat) (i : Nat), i < l.length → (Ov l).getD i 0 = l.getD (i + 1) 0
 | [], i, h => by simp at h
 | a :: r, 0, h => by
  unfold Ov
  cases r <;> rfl
 | a :: r, i + 1, h => by
  unfold Ov
  rw [Vk, Vk]
  exact eT r i (by simpa using h)
theorem Row0.view_create {l : List UInt8} {x x' : Img} {n g n' g' a : Nat} {ids ids' : List Nat} {ios : List IoV} (h : Row0 l x n g ids) (hc : Gw l (a : Int) = .ok ios) (h' : Row0 (Cn l ios) x' n' g' ids') (hp : (Hy l x).snaps.map SnapV.parent = Ov ids) : (Hy (Cn l ios) x').snaps.map SnapV.parent = Ov (a :: ids) := by
 obtain ⟨y, y', hd, hI, _, _, hm, _, _, _, _, _, hv⟩ := gL h.dev.1 hc
 have e1 : y = x := by
  have := (Mx h.dev.1).2 ⟨hd, hI⟩
  rw [h.lookQ] at this
  cases this; rfl
 have e2 : y' = x' := by
  have := (Mx h'.dev.1).2 ⟨h'.dev, hm.img⟩
  rw [h'.lookQ] at this
  cases this; rfl
 subst e1 e2
 rw [hv, Bc, hp]
 have : Kn y.recs = ids.headD 0 := by
  rw [← h.ids]
  cases y.recs <;> rfl
 show Kn y.recs :: _ = _
 rw [this]; rfl
theorem Row0.list {l : List UInt8} {x : Img} {n g : Nat} {ids : List Nat} (h : Row0 l x n g ids) : idsP x.recs = ids := by
 unfold idsP
 rw [Ob.2 (fun r hr => by have := h.kinds r hr; unfold Hl; rw [this]; rfl), h.ids]
attribute [local irreducible] aops Bb Cj Dm aop W WO
theorem uI {k : Nat} {A n : Nat} {l : List UInt8} {x : Img} {v2 : AV} {T : Tmps} {H : Heap} (hk : 1000200 ≤ k) (h1 : 1 ≤ A) (h2 : A ≤ 1000) (hn : n ≤ 10) (h0 : Row0 l x 30 1 []) (hp0 : (Hy l x).snaps.map SnapV.parent = [])
  (hH : H 0 = ⟨1, false, .row 1 []⟩) (hg : ∀ j, 1 ≤ j → (H j).gen = 0)
  (hT : Has T [(0, .int .i64 n), (1, .int .i64 A), (2, v2), (7, .islc false false 1 (BL l)), (9, .slc 0 1 0 1 0 0 none), (10, .int .i64 0)]) :
  W (Bb (CF k) noX 0 k (.loop Pc) T H) (fun ex T' H' => ex = .exit 0 ∧ ∃ l x, Row0 l x 30 (1 + n) (La A n) ∧ (Hy l x).snaps.map SnapV.parent = Ov (La A n) ∧ H' n = ⟨1, false, .row 1 (NL (La A n))⟩ ∧ (∀ j, n < j → (H' j).gen = 0) ∧
   Has T' [(0, .int .i64 n), (1, .int .i64 A), (2, v2), (7, .islc false false 1 (BL l)), (9, .slc n 1 n 1 0 n none)]) := by
 refine Fx n (fun i T' H' => ∃ l x, Row0 l x 30 (1 + i) (La A i) ∧ (Hy l x).snaps.map SnapV.parent = Ov (La A i) ∧ H' i = ⟨1, false, .row 1 (NL (La A i))⟩ ∧ (∀ j, 1 ≤ j → j ≤ i → (H' j).gen ≠ 0) ∧ (∀ j, i < j → (H' j).gen = 0) ∧
   Has T' [(0, .int .i64 n), (1, .int .i64 A), (2, v2), (7, .islc false false 1 (BL l)), (9, .slc i 1 i 1 0 i none), (10, .int .i64 (i : Nat))]) ⟨l, x, h0, hp0, hH, fun j a b => by omega, fun j hj => hg j (by omega), hT⟩ (by omega) ?_
 rintro i T H hi ⟨l, x, hR, hP, q1, q2, q3, hT⟩
 rw [hT.eq]
 simp only [over]
 unfold Pc
 by_cases hlt : i < n
 ·have hlt' : (i : Int) < n := by omega
  obtain ⟨ios, x', hc, h4, hst, hlen, hR'⟩ := hR.create (a := A + i) (by omega) (by omega) (fun h => by have := idsUp_mem.1 h; omega) (by rw [Uy]; omega) (by rw [Uy]; omega) (by omega)
  have hP' := hR.view_create hc hR' hP
  have hl := hR.dev.1
  have hok := eK hl hc
  have e1 : (A : Int) + (i : Int) = ((A + i : Nat) : Int) := by omega
  have pC := gR k (by omega) false l hl ((A + i : Nat) : Int)
  rw [hc] at pC
  unfold lD at pC
  have pA := oK k (by omega) false false l hl false false 3 ios (.inl rfl) hok.1 (fun y hy => (hok.2 y hy).1)
  unfold Zq at pA
  rw [if_neg (fun h => h hst)] at pA
  simp only at pC
  have hsl : Im H (0 + 1) many = i + 1 := by
   rw [qH i many (0 + 1) (by show i ≤ 11; omega) (fun j hj => q2 _ (by omega) (by omega)) (q3 _ (by omega))]; omega
  have hg0 : (H (i + 1)).gen = 0 := q3 _ (by omega)
  have hlu : (NL (La A i)).length = i := by rw [Be, Uy]
  have htk : ((NL (La A i)).drop 0).take i = NL (La A i) := by rw [Cc, Aj (by omega)]
  have q1' : ∀ es, (H.newRow (i + 1) 1 es) i = ⟨1, false, .row 1 (NL (La A i))⟩ := fun es => by
   show (H.upd (i + 1) _) i = _
   rw [Heap.upd_eq, if_neg (by omega), q1]
  have q4' : ∀ es, (H.newRow (i + 1) 1 es) (i + 1) = ⟨1, false, .row 1 es⟩ := fun es => by
   show (H.upd (i + 1) ⟨(H (i + 1)).gen + 1, false, .row 1 es⟩) (i + 1) = _
   rw [Heap.upd_eq, if_pos rfl, hg0]
  repeat' (first
   | refine qS ?_ | refine qN ?_ | (rw [e1]) | refine Ad pC ?_ | refine Ad pA ?_ | refine uL (es := [.int .i64 ((A + i : Nat) : Int)]) (i + 1) rfl (by rfl) hsl rfl rfl ?_
   | (rw [hg0]) | refine wS rfl rfl (by exact q1' _) hlu (by omega) htk (by exact q4' _) rfl (Lb _) (by rw [hlu]; omega) rfl rfl (fun _ => ?_) | refine qQba ?_
   | refine Ax fun _ => ?_)
  refine ⟨hlt, _, x', by rw [Xb, ← bY]; exact hR', by rw [Xb]; exact hP', ?_, ?_, ?_, rfl, rfl, rfl, rfl, ?_, by show AV.int _ _ = AV.int _ _; congr 1, trivial⟩
  ·show (Heap.upd _ (i + 1) _) (i + 1) = _
   rw [Heap.upd_eq, if_pos rfl, Xb]; rfl
  ·intro j h1 h2
   show ((Heap.upd _ (i + 1) _) j).gen ≠ 0
   rw [Heap.upd_eq]
   split
   ·exact Nat.one_ne_zero
   ·show ((H.upd (i + 1) _) j).gen ≠ 0
    rw [Heap.upd_eq, if_neg (by omega)]
    exact q2 j h1 (by omega)
  ·intro j h1
   show ((Heap.upd _ (i + 1) _) j).gen = 0
   rw [Heap.upd_eq, if_neg (by omega)]
   show ((H.upd (i + 1) _) j).gen = 0
   rw [Heap.upd_eq, if_neg (by omega)]
   exact q3 j (by omega)
  ·show AV.slc (i + 1) (0 + 1) (1 + (NL (La A i)).length) 1 0 (1 + (NL (La A i)).length) none = _
   rw [hlu, Nat.add_comm 1 i]
 ·have hin : i = n := by omega
  subst hin
  have hlt' : ¬ (i : Int) < i := by omega
  repeat' (first | refine qS ?_ | refine qN ?_ | refine qQb ?_ | refine Ax fun _ => ?_)
  exact ⟨rfl, l, x, hR, hP, q1, q3, rfl, rfl, rfl, rfl, rfl, trivial⟩
theorem Aco {k n g14 : Nat} {Wl : List Nat} {S : List SnapV} {hd op v2 v7 : AV} {T : Tmps} {H : Heap} (hk : 1000200 ≤ k) (hn : n ≤ 10) (hW : Wl.length = n) (hS : S.map SnapV.parent = Ov Wl) (qW : H n = ⟨1, false, .row 1 (NL Wl)⟩)
  (q14 : H 14 = ⟨g14, false, .row 3 [.agg [hd, .islc false false 5 (S.map SnapV.av), op]]⟩)
  (hT : Has T [(0, .int .i64 n), (2, v2), (7, v7), (9, .slc n 1 n 1 0 n none), (17, .ptr 14 g14 1 3 0 0), (19, .int .i64 0)]) :
  W (Bb (CF k) noX 0 k (.loop Oy) T H) (fun ex T' H' => ex = .exit 2 ∧ H' = H ∧ Has T' [(0, .int .i64 n), (2, v2), (7, v7), (9, .slc n 1 n 1 0 n none)]) := by
 refine Fx n (fun i T' H' => H' = H ∧ Has T' [(0, .int .i64 n), (2, v2), (7, v7), (9, .slc n 1 n 1 0 n none), (17, .ptr 14 g14 1 3 0 0), (19, .int .i64 (i : Nat))]) ⟨rfl, hT⟩ (by omega) ?_
 rintro i T H2 hi ⟨rfl, hT⟩
 rw [hT.eq]
 simp only [over]
 unfold Oy
 have hSl : S.length = n := by rw [← hW, ← Wq Wl, ← hS, Ak]
 by_cases hlt : i < n
 ·have hlt' : (i : Int) < n := by omega
  obtain ⟨x, hx⟩ : ∃ x, x = S[i]'(by omega) := ⟨_, rfl⟩
  have hp : x.parent = Wl.getD (i + 1) 0 := by
   have h1 := eT Wl i (by omega)
   rw [← hS] at h1
   rw [← h1, hx]
   simp [Aw, Cd, Ai (show i < S.length by omega)]
  have he1 : (S.map SnapV.av)[(i : Int).toNat]? = some x.av := by
   rw [Bd, Cd, Ai (show i < S.length by omega), ← hx]; rfl
  clear hx
  obtain ⟨x1, x2, x3, x4, x5⟩ := x
  simp only at hp
  subst hp
  have he2 : (S.map SnapV.av)[(i : Int).toNat]? = some (.agg [.int .i64 x1, .int .i64 (Wl.getD (i + 1) 0), .islc false false 1 (x3.map Jo), .int .i64 x4, .int .i64 x5]) := he1
  by_cases hl : i + 1 < n
  ·have hl' : (i : Int) < (n : Int) - 1 := by omega
   have hav : Wl.getD (0 + ((i : Int) + 1).toNat) default = Wl.getD (i + 1) 0 := by rw [show 0 + ((i : Int) + 1).toNat = i + 1 by omega]; rfl
   generalize Wl.getD (i + 1) 0 = pr at *
   repeat' (first
    | refine qS ?_ | refine Ep rfl rfl (by exact qW) (by rw [Be]; exact hW) (by omega) (by omega) (by omega) rfl rfl ?_
    | refine Gx (enc := nav) (l := Wl) (v := .int .i64 pr) ?_ (hr := by exact qW) (hv0 := by exact hW) (hi := by omega) (hv := by exact Ay nav hav)
    | refine Bj ?_ (hr := by exact q14) | refine Dv rfl rfl (by omega) he2 rfl rfl ?_ | refine qQba ?_ | refine Ab (fun _ => ?_) (fun _ => ?_))
   exact ⟨hlt, rfl, rfl, rfl, rfl, rfl, rfl, by show AV.int _ _ = AV.int _ _; congr 1, trivial⟩
  ·have hl' : ¬ (i : Int) < (n : Int) - 1 := by omega
   have hz : Wl.getD (i + 1) 0 = 0 := by simp [Aw, Hd (show Wl.length ≤ i + 1 by omega)]
   rw [hz] at he2
   have he3 : (S.map SnapV.av)[(i : Int).toNat]? = some (.agg [.int .i64 x1, .int .i64 0, .islc false false 1 (x3.map Jo), .int .i64 x4, .int .i64 x5]) := he2
   repeat' (first | refine qS ?_ | refine Bj ?_ (hr := by exact q14) | refine Dv rfl rfl (by omega) he3 rfl rfl ?_ | refine qQba ?_ | refine Ab (fun _ => ?_) (fun _ => ?_))
   exact ⟨hlt, rfl, rfl, rfl, rfl, rfl, rfl, by show AV.int _ _ = AV.int _ _; congr 1, trivial⟩
 ·have hin : i = n := by omega
  subst hin
  have hlt' : ¬ (i : Int) < i := by omega
  repeat' (first | refine qQb ?_ | fail)
  exact ⟨rfl, rfl, rfl, rfl, rfl, rfl, trivial⟩
theorem Ahy (cut : Int) (n : Nat) (hn : 0 < n) : ∃ c : Nat, cut % 18446744073709551616 % (n : Int) = (c : Int) ∧ c < n := by
 have h1 := Int.emod_lt_of_pos (cut % 18446744073709551616) (show (0 : Int) < (n : Int) by omega)
 have h2 := Int.emod_nonneg (cut % 18446744073709551616) (show (n : Int) ≠ 0 by omega)
 exact ⟨(cut % 18446744073709551616 % (n : Int)).toNat, by omega, by omega⟩
theorem Agb {log : List FP} {n : Nat} (h : log[4]? = some ⟨[n], [0 + 15], false⟩) (hn : n ≤ 10) : Av log ⟨[n], [], false⟩ [4] = true := by
 unfold Av
 simp only [sY, List.all_nil, h, Sn]
 unfold FP.apart
 simp
 omega
theorem kE (n0 id o : Int) : ∃ H, CF 1000700 Me 0 [.int .i64 n0, .int .i64 id, .int .i64 o] Heap.none = some (.bool true, H) := by
 suffices h : FnV (CF 1000700) Me [.int .i64 n0, .int .i64 id, .int .i64 o] (.bool true) by
  obtain ⟨u, H, h1, h2⟩ := h
  refine ⟨H, ?_⟩
  rw [h1, Aep h2]
 have hW := zI (1000700 - 1) (by omega)
 have hN := Afy (1000700 - 1) (by omega) 30 (by decide)
 obtain ⟨m, hm⟩ : ∃ m : Nat, id % 18446744073709551616 % 1000 = (m : Int) := ⟨(id % 18446744073709551616 % 1000).toNat, by omega⟩
 obtain ⟨A, hA⟩ : ∃ A : Nat, A = 1 + m := ⟨_, rfl⟩
 have hA1 : 1 ≤ A := by omega
 have hA2 : A ≤ 1000 := by omega
 have eA : (1 : Int) + (m : Int) = (A : Int) := by omega
 obtain ⟨q, hq⟩ : ∃ q : Nat, n0 % 18446744073709551616 % 10 = (q : Int) := ⟨(n0 % 18446744073709551616 % 10).toNat, by omega⟩
 obtain ⟨n, hn⟩ : ∃ n : Nat, n = 1 + q := ⟨_, rfl⟩
 have hn1 : 1 ≤ n := by omega
 have hn2 : n ≤ 10 := by omega
 have en : (1 : Int) + (q : Int) = (n : Int) := by omega
 obtain ⟨c, hc, hcn⟩ := Ahy o n (by omega)
 have hR0 := Aai (n := 30) (by decide) (by decide)
 have hP0 : (Hy (newP 30) ⟨⟨1, 30, 0, 0, 0⟩, 0, [], [], [ws0]⟩).snaps.map SnapV.parent = [] := rfl
 generalize newP 30 = l0 at *
 refine fnk (by omega) Yp rfl ?_
 unfold law19_SnapLists
 repeat' (first | refine qS ?_ | refine qN ?_ | (rw [hm]) | (rw [eA]) | (rw [hq]) | (rw [en]) | (rw [hc]) | refine Ad hN ?_ | refine qQ ?_ | refine Ax fun _ => ?_)
 refine W.mono (uI (k := 1000700 - 1) (A := A) (n := n) (v2 := .int .i64 c) (by omega) hA1 hA2 hn2 hR0 hP0 rfl (fun j hj => by
  show ((Heap.none.upd 0 _) j).gen = 0
  rw [Heap.upd_eq, if_neg (by omega)]; rfl) ⟨rfl, rfl, rfl, rfl, rfl, rfl, trivial⟩) ?_
 rintro ex T2 H2 ⟨rfl, l, x, hR, hP, qW, qG, hT2⟩
 rw [hT2.eq]
 simp only [over]
 show W _ _
 have hl := hR.dev.1
 obtain ⟨W0, hW0⟩ : ∃ W, W = La A n := ⟨_, rfl⟩
 have hWl : W0.length = n := by rw [hW0, Uy]
 have hWm : ∀ a ∈ W0, 1 ≤ a ∧ a ≤ 4611686018427387903 := fun a ha => by rw [hW0] at ha; have := idsUp_mem.1 ha; omega
 rw [← hW0] at hR hP qW
 have hlu : (NL W0).length = n := by rw [Be, hWl]
 have pL := tE (1000700 - 1) (by omega) false l hl
 rw [hR.lookQ] at pL
 unfold aQ at pL
 simp only at pL
 rw [hR.list] at pL
 have pV := yC (1000700 - 1) (by omega) false l hl
 rw [hR.lookQ] at pV
 unfold xB ViewV.cs Sy at pV
 simp only at pV
 have hSl : (Hy l x).snaps.length = n := by rw [← hWl, ← Wq W0, ← hP, Ak]
 obtain ⟨f3, s3, h3, _⟩ := Abd (Hy l x).opens
 have h2 : Pu (Hy l x).snaps = .islc false false 5 ((Hy l x).snaps.map SnapV.av) := by
  unfold Pu
  rw [if_neg (fun h => by rw [h] at hSl; simp at hSl; omega)]
 rw [h2, h3] at pV
 generalize (Hy l x).head.map Jo = V1 at *
 generalize (Hy l x).opens.map SnapV.av = V3 at *
 generalize (Hy l x).snaps = S at *
 have hSm : (S.map SnapV.av).length = n := by rw [Ak, hSl]
 have qW14 : ∀ b1 b2 : Blk, ((H2.upd 14 b1).upd 14 b2) n = ⟨1, false, .row 1 (NL W0)⟩ := fun b1 b2 => by
  rw [Heap.upd_eq, if_neg (by omega), Heap.upd_eq, if_neg (by omega)]; exact qW
 have hKI := nV (1000700 - 1) (by omega) false false true false W0 (by omega)
 repeat' (first
  | refine qS ?_ | refine qN ?_ | refine Ad pL ?_ | refine Ad pV ?_ | refine Ad hKI ?_ rfl (by exact Ay (fun z => [_, z]) (Ge (by exact qW14 _ _) hWl 4))
  | refine Ba (n := n) rfl hSm rfl rfl ?_ | refine qQ ?_ | refine Ax fun _ => ?_)
 refine W.mono (Aco (k := 1000700 - 1) (n := n) (Wl := W0) (S := S) (g14 := (H2 14).gen + 1) (hd := .islc false false 1 V1) (op := .islc false f3 s3 V3) (v2 := .int .i64 c) (v7 := .islc false false 1 (BL l)) (by omega) hn2 hWl hP (by exact qW14 _ _) (by exact rfl) ⟨rfl, rfl, rfl, rfl, rfl, rfl, trivial⟩) ?_
 rintro ex T3 H3 ⟨rfl, hH3, hT3⟩
 have qW3 : H3 n = ⟨1, false, .row 1 (NL W0)⟩ := by
  rw [hH3]; exact qW14 _ _
 clear hH3 pL pV hKI
 rw [hT3.eq]
 simp only [over]
 show W _ _
 obtain ⟨a, aa, bs, hsp, hal⟩ : ∃ a aa bs, W0 = aa ++ a :: bs ∧ aa.length = c := by
  refine ⟨W0[c]'(by omega), W0.take c, W0.drop (c + 1), ?_, by rw [Cf]; omega⟩
  rw [← Cg, Iy]
 have ham := hWm a (by rw [hsp]; simp)
 have hRs := hR
 rw [hsp] at hRs
 obtain ⟨ios, x2, hd, h55, hst, hlen, hR2⟩ := hRs.delete ham.1 ham.2 (by rw [← hsp, hWl, hal]; omega) (by omega)
 have hok := uO hl hd
 have hl2 : (Cn l ios).length < 1000000 := by rw [hlen]; exact hl
 have pD := sD (1000700 - 1) (by omega) false l hl (a : Int)
 rw [hd] at pD
 unfold lD at pD
 simp only at pD
 have pA := oK (1000700 - 1) (by omega) false false l hl false false 3 ios (.inl rfl) hok.1 (fun y hy => (hok.2 y hy).1)
 unfold Zq at pA
 rw [if_neg (fun h => h hst)] at pA
 have pL2 := tE (1000700 - 1) (by omega) false (Cn l ios) hl2
 rw [hR2.lookQ] at pL2
 unfold aQ at pL2
 simp only at pL2
 rw [hR2.list] at pL2
 have pS := Aee (1000700 - 1) (by omega) false (Cn l ios) hl2
 unfold aJ at pS
 rw [hR2.lookQ] at pS
 simp only at pS
 have hml : (ios.map IoV.av).length = c + 3 := by rw [Ak, h55, hal]
 have hbl : bs.length = n - (c + 1) := by
  have := Ay List.length hsp
  rw [Ar, As, hal, hWl] at this; omega
 generalize Cn l ios = l2 at *
 have hav : W0.getD (0 + (c : Int).toNat) default = a := by
  rw [show 0 + (c : Int).toNat = c by omega, hsp, Aw, ← hal]; simp
 have hNL : NL aa ++ NL bs = NL (aa ++ bs) := by unfold NL; rw [Br]
 have hm1 : ((NL W0).drop (0 + 0)).take (c - 0) = NL aa := by
  rw [hsp, ← hal]; unfold NL; simp
 have hm2 : ((NL W0).drop (0 + (c + 1))).take (n - (c + 1)) = NL bs := by
  rw [hsp, ← hbl, ← hal]; unfold NL
  rw [show aa ++ a :: bs = (aa ++ [a]) ++ bs by simp, show 0 + (aa.length + 1) = (aa ++ [a]).length by simp, ← Ih, List.drop_left, ← bZ, Bp]
 have hKI2 := nV (1000700 - 1) (by omega) false false true false (aa ++ bs) (by rw [Ar]; omega)
 have ec : (c : Int) + 1 = ((c + 1 : Nat) : Int) := by omega
 clear hR hRs hR2 hP hW0 hd hok hst hWm hsp
 by_cases h0 : c = 0
 ·subst h0
  obtain rfl : aa = [] := Eb.1 hal
  by_cases hb : bs = []
  ·subst hb
   have hKI3 : FnV (CF (1000700 - 1)) Tr [.islc false false 1 (NL ([] ++ [])), .islc false true 1 (NL ([] ++ []))] (.bool true) := nV (1000700 - 1) (by omega) false false false true [] (by decide)
   obtain rfl : n = 1 := by
    have : ([] : List Nat).length = 0 := rfl
    omega
   repeat' (first
    | refine qS ?_ | refine qN ?_ | refine Qr rfl rfl ?_ | refine Ad pD ?_ | refine Ad pA ?_ | refine Ad pL2 ?_ | refine Ad pS ?_ | refine Ad hW ?_
    | refine Ba (n := 0 + 3) rfl hml rfl rfl ?_ | (rw [ec]) | refine Ep rfl rfl (by exact qW3) (by rw [Be]; exact hWl) (by omega) (by omega) (by omega) rfl rfl ?_
    | refine Gx (enc := nav) (l := W0) (v := .int .i64 a) ?_ (hr := by exact qW3) (hv0 := by exact hWl) (hi := by omega) (hv := by exact Ay nav hav)
    | refine Ju (a := 0) (b := 0) rfl (by exact qW3) hlu rfl (Kz rfl) (by omega) (by show _ ≤ 1 - 0; omega) (by show 0 + (1 - 0) ≤ 1; omega) rfl rfl ?_
    | refine Ju (a := 0 + 1) (b := 1) rfl (by exact qW3) hlu (Kz rfl) rfl (by omega) (by show _ ≤ 1 - 0; omega) (by show 0 + (1 - 0) ≤ 1; omega) rfl rfl ?_
    | refine rA rfl rfl (by exact qW3) hlu (by omega) rfl rfl ?_ | refine Ad hKI3 ?_ | refine qQ ?_ | refine Ab (fun _ => ?_) (fun _ => ?_) | refine Ax fun _ => ?_)
   exact ⟨Or.inr rfl, _, rfl, rfl⟩
  ·have hn0 : Fz (NL bs) = false := by cases bs with | nil => exact absurd rfl hb | cons => rfl
   repeat' (first
    | refine qS ?_ | refine qN ?_ | refine Qr rfl rfl ?_ | refine Ad pD ?_ | refine Ad pA ?_ | refine Ad pL2 ?_ | refine Ad pS ?_ | refine Ad hW ?_
    | refine Ba (n := 0 + 3) rfl hml rfl rfl ?_ | (rw [ec]) | refine Ep rfl rfl (by exact qW3) (by rw [Be]; exact hWl) (by omega) (by omega) (by omega) rfl rfl ?_
    | refine Gx (enc := nav) (l := W0) (v := .int .i64 a) ?_ (hr := by exact qW3) (hv0 := by exact hWl) (hi := by omega) (hv := by exact Ay nav hav)
    | refine Ju (a := 0) (b := 0) rfl (by exact qW3) hlu rfl (Kz rfl) (by omega) (by show _ ≤ n - 0; omega) (by show 0 + (n - 0) ≤ n; omega) rfl rfl ?_
    | refine Ju (a := 0 + 1) (b := n) rfl (by exact qW3) hlu (Kz rfl) rfl (by omega) (by show _ ≤ n - 0; omega) (by show 0 + (n - 0) ≤ n; omega) rfl rfl ?_
    | refine rA rfl rfl (by exact qW3) hlu (by omega) rfl rfl ?_ | refine wI rfl rfl (by exact qW3) hlu (by omega) hm2 hn0 (Lb _) (by rw [Be]; omega) rfl rfl ?_
    | refine Ad hKI2 ?_ rfl (by exact Ay (fun z => [_, z]) (Ge (l := [] ++ bs) (by exact rfl) (by rw [Be]; rfl) 4)) | refine qQ ?_
    | refine Ab (fun _ => ?_) (fun _ => ?_) | refine Ax fun _ => ?_)
   exact ⟨Or.inr rfl, _, rfl, rfl⟩
 ·have hn0 : Fz (NL aa) = false := by
   cases aa with
   | nil => exact absurd hal.symm h0
   | cons => rfl
  have hq15 : ∀ es, (H3.newRow (0 + 15) 1 es) n = ⟨1, false, .row 1 (NL W0)⟩ := fun es => by
   show (H3.upd 15 _) n = _
   rw [Heap.upd_eq, if_neg (by omega)]; exact qW3
  repeat' (first
   | refine qS ?_ | refine qN ?_ | refine Qr rfl rfl ?_ | refine Ad pD ?_ | refine Ad pA ?_ | refine Ad pL2 ?_ | refine Ad pS ?_ | refine Ad hW ?_
   | refine Ba (n := c + 3) rfl hml rfl rfl ?_ | (rw [ec]) | refine Ep rfl rfl (by exact qW3) (by rw [Be]; exact hWl) (by omega) (by omega) (by omega) rfl rfl ?_
   | refine Gx (enc := nav) (l := W0) (v := .int .i64 a) ?_ (hr := by exact qW3) (hv0 := by exact hWl) (hi := by omega) (hv := by exact Ay nav hav)
   | refine Ju (a := 0) (b := c) rfl (by exact qW3) hlu rfl (Kz rfl) (by omega) (by show _ ≤ n - 0; omega) (by show 0 + (n - 0) ≤ n; omega) rfl rfl ?_
   | refine Ju (a := c + 1) (b := n) rfl (by exact hq15 _) hlu (Kz rfl) rfl (by omega) (by show _ ≤ n - 0; omega) (by show 0 + (n - 0) ≤ n; omega) rfl (by exact Agb (by rfl) hn2) ?_
   | refine wI rfl rfl (by exact qW3) hlu (by omega) hm1 hn0 (Lb _) (by rw [Be]; omega) rfl rfl ?_
   | refine wS rfl rfl (by exact hq15 _) hlu (by omega) hm2 (by exact rfl) rfl (Lb _) (by rw [Be, Be]; omega) rfl rfl (fun _ => ?_)
   | refine Ad hKI2 ?_ rfl (by exact Ay (fun z => [_, z]) (Ge (l := aa ++ bs) (by exact Ay (fun z => (⟨_, false, .row 1 z⟩ : Blk)) hNL) (by rw [Be, Be, Ar]) 4))
   | refine qQ ?_ | refine Ab (fun _ => ?_) (fun _ => ?_) | refine Ax fun _ => ?_)
  exact ⟨Or.inr rfl, _, rfl, rfl⟩
end Go.Proofs.Ytkaiiopoilpjeaa

