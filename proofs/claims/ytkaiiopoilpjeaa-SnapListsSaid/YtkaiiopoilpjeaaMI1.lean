/- Lemmas. -/
import Derived.Test.YtkaiiopoilpjeaaMS
import Derived.Test.YtkaiiopoilpjeaaG4
set_option linter.unusedSimpArgs false
set_option linter.unusedVariables false
set_option maxRecDepth 10000
set_option maxHeartbeats 16000000
namespace Go.Proofs.Ytkaiiopoilpjeaa
open Go.AI
attribute [local irreducible] aops Bb Cj Dm aop W WO
theorem fnk {k f : Nat} {fn : SFun} {args : List AV} {v : AV} (hk : 0 < k) (hB : B f = some fn) (hl : args.length = fn.nparams)
  (h : W (Bb (CF (k - 1)) noX 0 (k - 1) fn.code (Qw args) Heap.none) (fun ex T H => (ex = .normal ∨ ex = .ret) ∧ ∃ u, Jb T H fn.results = some u ∧ fz true deep H u = v)) : FnV (CF k) f args v := by
 obtain ⟨k, rfl⟩ : ∃ j, k = j + 1 := ⟨k - 1, by omega⟩
 exact Yj hB hl h
theorem fni {k f base : Nat} {fn : SFun} {args : List AV} {H : Heap} {R : AV → Heap → Prop} (hk : 0 < k) (hB : B f = some fn) (hl : args.length = fn.nparams)
  (h : W (Bb (CF (k - 1)) noX base (k - 1) fn.code (Qw args) H) (fun ex T H => (ex = .normal ∨ ex = .ret) ∧ ∃ u, Jb T H fn.results = some u ∧ R u H)) : ∃ u H', CF k f base args H = some (u, H') ∧ R u H' := by
 obtain ⟨k, rfl⟩ : ∃ j, k = j + 1 := ⟨k - 1, by omega⟩
 exact uW hB hl h
def Kp (l : List UInt8) (a c : Nat) : Bool := ((l.take c).drop a).all (· == 0)
theorem uH (k : Nat) (hk : 1000001 ≤ k) (t f : Bool) (l : List UInt8) (a c : Nat) (hl : l.length < 1000000) (ha : a < 1000000) (hc : c < 1000000) : FnV (CF k) fN [.islc t f 1 (BL l), .int .i64 a, .int .i64 c] (.bool (Kp l a c)) := by
 refine fnk (by omega) vA rfl ?_
 unfold iR
 repeat' (first | refine qQb ?_ | refine Ab (fun _ => ?_) (fun _ => ?_))
 refine W.mono (Q := fun ex T' H' => (ex = .ret ∧ Kp l a c = false ∧ T' 6 = .bool false) ∨ (ex = .exit 0 ∧ Kp l a c = true)) ?_ ?_
 ·refine Fx (min c l.length - a) (fun i T' H' => Kp l a c = Kp l (a + i) c ∧ Has T' [(0, .islc t f 1 (BL l)), (2, .int .i64 c), (7, .int .i64 ((a + i : Nat) : Int))]) ⟨rfl, rfl, rfl, by show AV.int _ _ = AV.int _ _; congr 1; omega, trivial⟩ (by omega) ?_
  rintro i T H hi ⟨hgo, hT⟩
  rw [hT.eq]
  simp only [over]
  by_cases hil : i < min c l.length - a
  ·have hd : (l.take c).drop (a + i) = bAt l ((a + i : Nat) : Int) :: (l.take c).drop (a + i + 1) := by
    rw [Cg (by simp; omega)]
    congr 1
    simp only [bAt, Bd]
    simp [show a + i < l.length by omega]
   have hz : Kp l (a + i) c = ((bAt l ((a + i : Nat) : Int) == 0) && Kp l (a + (i + 1)) c) := by
    unfold Kp
    rw [hd, sY]
    rfl
   repeat' (first | refine qQb ?_ | refine Ab (fun _ => ?_) (fun _ => ?_))
   ·rename_i h
    simp only [cmpP] at h
    refine .inl ⟨rfl, ?_, rfl⟩
    rw [hgo, hz, Bool.and_eq_false_iff]
    refine .inl (beq_eq_false_iff_ne.2 fun hh => h ?_)
    rw [hh]; rfl
   ·rename_i h
    simp only [cmpP] at h
    refine ⟨hil, ?_, rfl, rfl, by show AV.int _ _ = AV.int _ _; congr 1, trivial⟩
    rw [hgo, hz]
    have : bAt l ((a + i : Nat) : Int) = 0 := UInt8.toNat_inj.1 (by have := Cw.1 h; simp at this ⊢; omega)
    rw [this]; rfl
  ·have hz : Kp l (a + i) c = true := by
    unfold Kp
    rw [Bm (by simp; omega)]; rfl
   repeat' (first | refine qQb ?_ | refine Ab (fun _ => ?_) (fun _ => ?_))
   exact .inr ⟨rfl, by rw [hgo, hz]⟩
 rintro ex T2 H2 (⟨rfl, h1, h2⟩ | ⟨rfl, h1⟩)
 ·refine ⟨Or.inr rfl, _, rfl, ?_⟩
  show fz true 6 H2 (T2 6) = _
  rw [h2, h1]; rfl
 ·rw [h1]
  show W _ _
  repeat' (first | refine qQb ?_ | refine Ab (fun _ => ?_) (fun _ => ?_))
  exact ⟨Or.inr rfl, _, rfl, rfl⟩
def devB (n : Nat) : Prop := n % 64 = 0 ∧ 4 ≤ n / 64 ∧ n / 64 ≤ 4096
instance (n : Nat) : Decidable (devB n) := by unfold devB; infer_instance
theorem Tw (k : Nat) (hk : 1 ≤ k) (t f : Bool) (s : Nat) (l : List UInt8) (hl : l.length < 1000000) : FnV (CF k) Pv [.islc t f s (BL l)] (if devB l.length then .tup [.int .i64 (l.length / 64 : Nat), .int .i64 0] else .tup [.int .i64 0, .int .i64 2]) := by
 refine fnk (by omega) pR rfl ?_
 unfold aS
 by_cases hd : devB l.length
 ·rw [if_pos hd]
  unfold devB at hd
  repeat' (first | refine qS ?_ | refine qN ?_ | refine qQ ?_ | refine Ab (fun _ => ?_) (fun _ => ?_))
  exact ⟨Or.inr rfl, _, rfl, rfl⟩
 ·rw [if_neg hd]
  unfold devB at hd
  repeat' (first | refine qS ?_ | refine qN ?_ | refine qQ ?_ | refine Ab (fun _ => ?_) (fun _ => ?_))
  all_goals first
   | exact ⟨Or.inr rfl, _, rfl, rfl⟩
   | (exfalso; simp only [cmpP] at *; omega)
def blk (l : List UInt8) (at0 : Nat) : List UInt8 := (l.drop (64 * at0)).take 64
theorem Qn (k : Nat) (hk : 1 ≤ k) (t f : Bool) (l : List UInt8) (a : Nat) (hl : l.length < 1000000) (ha : 64 * (a + 1) ≤ l.length) (base : Nat) (H : Heap) :
  CF k Qy base [.islc t f 1 (BL l), .int .i64 a] H = some (.islc t (f && decide (64 * (a + 1) = l.length)) 1 (BL (blk l a)), H) := by
 have h : ∃ u H', CF k Qy base [.islc t f 1 (BL l), .int .i64 a] H = some (u, H') ∧ (u = .islc t (f && decide (64 * (a + 1) = l.length)) 1 (BL (blk l a)) ∧ H' = H) := by
  refine fni (by omega) rJ rfl ?_
  unfold oC
  repeat' (first | refine qQb ?_ | fail)
  have e : (l.drop ((a : Int) * 64).toNat).take ((((a : Int) + 1) * 64).toNat - ((a : Int) * 64).toNat) = blk l a := by
   unfold blk
   rw [show ((a : Int) * 64).toNat = 64 * a by omega, show (((a : Int) + 1) * 64).toNat - 64 * a = 64 by omega]
  have e2 : (((a : Int) + 1) * 64).toNat = 64 * (a + 1) := by omega
  refine ⟨Or.inr rfl, _, rfl, ?_, rfl⟩
  show AV.islc t (f && decide ((((a : Int) + 1) * 64).toNat = l.length)) 1 (BL ((l.drop ((a : Int) * 64).toNat).take ((((a : Int) + 1) * 64).toNat - ((a : Int) * 64).toNat))) = _
  rw [e, e2]
 obtain ⟨u, H', h1, rfl, rfl⟩ := h
 exact h1
end Go.Proofs.Ytkaiiopoilpjeaa
set_option maxRecDepth 10000
set_option maxHeartbeats 16000000
namespace Go.Proofs.Ytkaiiopoilpjeaa
open Go.AI
def layF : Nat → List Nat → List (Nat × Nat)
 | _, [] => []
 | a, s :: r => (a, s) :: layF (a + s) r
def iO (x : Nat × Nat) : AV := .agg [.int .i64 x.1, .int .i64 x.2]
theorem iK : ∀ (a : Nat) (l : List Nat), (layF a l).length = l.length
 | _, [] => rfl
 | a, s :: r => by simp [layF, iK (a + s) r]
theorem Xk {f : Nat} {v : AV} {k : Nat} (hk : 1000 ≤ k) (h : ∀ j, (CF (j + 1000) f 0 [] Heap.none).map (fun p => fz true deep p.2 p.1) = some v) : FnV (CF k) f [] v := by
 obtain ⟨j, rfl⟩ : ∃ j, k = j + 1000 := ⟨k - 1000, by omega⟩
 have := h j
 cases hc : CF (j + 1000) f 0 [] Heap.none with
 | none => rw [hc] at this; cases this
 | some p => rw [hc] at this; exact ⟨p.1, p.2, hc, Option.some.inj this⟩
theorem Ub (k : Nat) (hk : 1000 ≤ k) : FnV (CF k) iS [] (.islc false false 2 ((layF 4 [8, 4, 4, 4, 4]).map iO)) := Xk hk fun j => by kernel_rfl
theorem kD (k : Nat) (hk : 1000 ≤ k) : FnV (CF k) kC [] (.islc false false 2 ((layF 4 [4, 4, 4, 4, 4, 4, 4, 4, 4]).map iO)) := Xk hk fun j => by kernel_rfl
theorem Sk (k : Nat) (hk : 1000 ≤ k) : FnV (CF k) dI [] (.islc false false 2 ((layF 4 [4, 8, 8, 4, 4, 4, 4, 4]).map iO)) := Xk hk fun j => by kernel_rfl
attribute [local irreducible] aops Bb Cj Dm aop W WO
theorem tL (k : Nat) (hk : 1 ≤ k) (n lo hi : Int) : FnV (CF k) iD [.int .i64 n, .int .i64 lo, .int .i64 hi] (.bool (decide (lo ≤ n ∧ n ≤ hi))) := by
 refine fnk (by omega) tI rfl ?_
 unfold eQ
 repeat' (first | refine qS ?_ | refine qN ?_ | refine qQb ?_ | refine Ab (fun _ => ?_) (fun _ => ?_))
 all_goals (refine ⟨Or.inr rfl, _, rfl, ?_⟩; show AV.bool _ = _; simp [cmpP, *] at *; try omega)
theorem sM (k : Nat) (hk : 1 ≤ k) (n lo hi : Int) : FnV (CF k) dB [.int .i64 n, .int .i64 lo, .int .i64 hi] (.bool (decide (lo ≤ n ∧ n ≤ hi))) := by
 refine fnk (by omega) rB rfl ?_
 unfold aD
 repeat' (first | refine qS ?_ | refine qN ?_ | refine qQb ?_ | refine Ab (fun _ => ?_) (fun _ => ?_))
 all_goals (refine ⟨Or.inr rfl, _, rfl, ?_⟩; show AV.bool _ = _; simp [cmpP, *] at *; try omega)
theorem Uj (k : Nat) (hk : 1 ≤ k) (n : Int) : FnV (CF k) Pg [.int .i64 n] (.bool (decide (n = 0 ∨ 2 ≤ n ∧ n < 4096))) := by
 refine fnk (by omega) eJ rfl ?_
 unfold Rh
 repeat' (first | refine qS ?_ | refine qN ?_ | refine qQb ?_ | refine Ab (fun _ => ?_) (fun _ => ?_))
 all_goals (refine ⟨Or.inr rfl, _, rfl, ?_⟩; show AV.bool _ = _; simp [cmpP, *] at *; try omega)
def putS : List Nat → List Int → List UInt8
 | s :: r, n :: m => leB s n ++ putS r m
 | _, _ => []
theorem Tq : ∀ (ss : List Nat) (ns : List Int), ss.length = ns.length → (putS ss ns).length = ss.sum
 | [], _, _ => by simp [putS]
 | s :: r, [], h => by simp at h
 | s :: r, n :: m, h => by simp [putS, Tq r m (by simpa using h)]
theorem oH : ∀ (ss : List Nat) (a i : Nat), i < ss.length → (layF a ss).getD i default = (a + (ss.take i).sum, ss.getD i 0)
 | [], _, _, h => by simp at h
 | s :: r, a, 0, _ => by simp [layF]
 | s :: r, a, i + 1, h => by
  have := oH r (a + s) i (by simpa using h)
  simp only [layF, Vk, this, Jy, List.sum_cons]
  congr 1; omega
theorem mP : ∀ (ss : List Nat) (ns : List Int) (i : Nat), ss.length = ns.length → i < ss.length → putS (ss.take (i + 1)) (ns.take (i + 1)) = putS (ss.take i) (ns.take i) ++ leB (ss.getD i 0) (ns.getD i 0)
 | [], _, _, _, h => by simp at h
 | s :: r, [], _, h, _ => by simp at h
 | s :: r, n :: m, 0, _, _ => by simp [putS]
 | s :: r, n :: m, i + 1, h, hi => by
  have := mP r m i (by simpa using h) (by simpa using hi)
  simp only [Jy, putS, Vk, Dr] at this ⊢
  rw [this]
theorem Sz : ∀ (ss : List Nat) (i : Nat), i < ss.length → (ss.take i).sum + ss.getD i 0 ≤ ss.sum
 | [], _, h => by simp at h
 | s :: r, 0, _ => by simp
 | s :: r, i + 1, h => by
  have := Sz r i (by simpa using h)
  simp at this ⊢; omega
def Oc (m : List UInt8) (ss : List Nat) (ns : List Int) : List UInt8 := m ++ putS ss ns ++ List.replicate (60 - (m.length + ss.sum)) 0
def Mo (m : List UInt8) (ss : List Nat) (ns : List Int) : List UInt8 := Oc m ss ns ++ leB 4 (Iv 0 (Oc m ss ns))
theorem Va {m : List UInt8} {ss : List Nat} {ns : List Int} (hm : m.length = 4) (h : ss.length = ns.length) (hs : ss.sum ≤ 56) : (Oc m ss ns).length = 60 := by
 simp [Oc, Tq ss ns h, hm]; omega
theorem Qm {m : List UInt8} {ss : List Nat} {ns : List Int} (hm : m.length = 4) (h : ss.length = ns.length) (hs : ss.sum ≤ 56) : (Mo m ss ns).length = 64 := by
 simp [Mo, Va hm h hs]
theorem yD (k : Nat) (hk : 1000002 ≤ k) (t f : Bool) (l : List UInt8) (hl : l.length < 1000000) : FnV (CF k) bE [.islc t f 1 (BL l)] (.int .i64 (Iv 0 l)) := by
 obtain ⟨j, rfl⟩ : ∃ j, k = j + 2 := ⟨k - 2, by omega⟩
 exact kP j (by omega) t f l hl
theorem rL (k : Nat) (hk : 10 ≤ k) (base : Nat) (H : Heap) (j gn v : Nat) (a z : List UInt8) (n at0 : Int) (s : Nat) (hs : s ≤ 8) (hz : s ≤ z.length) (ha : a.length < 1000000) (hlz : z.length < 1000000) (hat : at0 = a.length) (hv : a.length + z.length = v) (hr : H j = ⟨gn, false, .row 1 (BL (a ++ z))⟩) :
  CF k Ye base [.slc j gn v 1 0 v .none, .int .i64 at0, .int .i64 s, .int .i64 n] H = some (.tup [], H.upd j ⟨gn, false, .row 1 (BL (a ++ leB s n ++ z.drop s))⟩) := by
 obtain ⟨q, rfl⟩ : ∃ q, k = q + 1 := ⟨k - 1, by omega⟩
 exact Abn q (by omega) base H j gn v a z n at0 s hs hz ha hlz hat hv hr
theorem Aea {H : Heap} {j gn v n : Nat} {ro : Bool} {cap : Option Nat} {l : List UInt8} (hr : H j = ⟨gn, ro, .row 1 (BL l)⟩) (hv : l.length = v) (hn : n ≤ v) : fz false 6 H (.slc j gn v 1 0 n cap) = .islc true false 1 (BL (l.take n)) := by
 rw [mR (n := 4) (Ek hr (by simpa using hv)) (by omega), Cc]
 rfl
theorem tD (k : Nat) (hk : 1000010 ≤ k) (base : Nat) (H : Heap) (j gn : Nat) (a z : List UInt8) (ha : a.length = 60) (hz : z.length = 4) (hr : H j = ⟨gn, false, .row 1 (BL (a ++ z))⟩) :
  ∃ u, CF k Xq base [.slc j gn 64 1 0 64 .none] H = some (u, H.upd j ⟨gn, false, .row 1 (BL (a ++ leB 4 (Iv 0 a)))⟩) := by
 have h : ∃ u H', CF k Xq base [.slc j gn 64 1 0 64 .none] H = some (u, H') ∧ H' = H.upd j ⟨gn, false, .row 1 (BL (a ++ leB 4 (Iv 0 a)))⟩ := by
  have hs := yD (k - 1) (by omega) true false a (by omega)
  refine fni (by omega) tX rfl ?_
  unfold gT
  have hset := rL (k - 1) (by omega) (base + 0) H j gn 64 a z (Iv 0 a) 60 4 (by omega) (by omega) (by omega) (by omega) (by omega) (by omega) hr
  repeat' (first
   | refine qS ?_ | refine tJ rfl (by exact hr) (by simp [ha, hz]) rfl (by omega) (by exact Ce rfl) (by exact Ce rfl) rfl rfl ?_
   | refine Ad hs ?_ rfl (by show [fz false 6 _ (AV.slc _ _ _ _ _ _ _)] = _; rw [Aea hr (by simp [ha, hz]) (by exact Ce rfl)]; show [AV.islc true false 1 (BL (List.take 60 (a ++ z)))] = _; rw [List.take_left' ha])
   | refine Gr hset rfl rfl rfl ?_ | refine qQb ?_ | fail)
  refine ⟨Or.inl rfl, _, rfl, ?_⟩
  rw [Bm (by omega), Bt]
 obtain ⟨u, H', h1, rfl⟩ := h
 exact ⟨u, h1⟩
def strB (l : List UInt8) : AV := .str ⟨l.toArray⟩
theorem Zk (k : Nat) (hk : 1000020 ≤ k) (t f : Bool) (m : List UInt8) (ss : List Nat) (ns : List Int) (hm : m.length = 4) (h : ss.length = ns.length) (hs : ss.sum ≤ 56) (h8 : ∀ s ∈ ss, s ≤ 8) (hn : ns.length ≤ 100) :
  FnV (CF k) Zb [strB m, .islc false false 2 ((layF 4 ss).map iO), .islc t f 1 (IL ns)] (.islc false false 1 (BL (Mo m ss ns))) := by
 have hll := iK 4 ss
 refine fnk (by omega) nQ rfl ?_
 unfold Xf
 repeat' (first | refine qS ?_ | refine Acm rfl rfl rfl rfl (by rw [hm]; decide) rfl rfl ?_ | refine qQb ?_ | refine Ab (fun _ => ?_) (fun _ => ?_))
 refine W.mono (Q := fun ex T' H' => ex = .exit 0 ∧ T' 7 = .slc 0 1 64 1 0 64 none ∧ H' 0 = ⟨1, false, .row 1 (BL (Oc m ss ns ++ [0, 0, 0, 0]))⟩) ?_ ?_
 ·refine Fx ss.length (fun i T' H' => H' 0 = ⟨1, false, .row 1 (BL (m ++ putS (ss.take i) (ns.take i) ++ List.replicate (60 - (ss.take i).sum) 0))⟩ ∧
    Has T' [(2, .islc t f 1 (IL ns)), (7, .slc 0 1 64 1 0 64 none), (14, .islc false false 2 ((layF 4 ss).map iO)), (15, .int .i64 ss.length), (16, .int .i64 (i : Nat))])
   ⟨?_, rfl, rfl, rfl, by show AV.int _ _ = AV.int _ _; rw [hll], rfl, trivial⟩ (by omega) ?_
  ·simp only [Ix, putS, Bt, List.sum_nil, Nat.sub_zero]
   exact Ay (fun z => (⟨1, false, .row 1 (BL z)⟩ : Blk)) (by rw [hm]; rfl)
  rintro i T H hi ⟨hH, hT⟩
  rw [hT.eq]
  simp only [over]
  by_cases hil : i < ss.length
  ·have hle := Sz ss i hil
   have hsi : ss.getD i 0 ≤ 8 := h8 _ (by rw [Aw, Ai hil]; exact Bz hil)
   have hpl : (putS (ss.take i) (ns.take i)).length = (ss.take i).sum := Tq _ _ (by simp [h])
   have hfl := oH ss 4 i hil
   have hset : ∀ H', H' 0 = ⟨1, false, .row 1 (BL (m ++ putS (ss.take i) (ns.take i) ++ List.replicate (60 - (ss.take i).sum) 0))⟩ →
     CF (k - 1) Ye (0 + 2) [.slc 0 1 64 1 0 64 none, .int .i64 ((layF 4 ss).getD i default).1, .int .i64 ((layF 4 ss).getD i default).2, .int .i64 (ns.getD i default)] H' =
      some (.tup [], H'.upd 0 ⟨1, false, .row 1 (BL (m ++ putS (ss.take i) (ns.take i) ++ leB (ss.getD i 0) (ns.getD i default) ++ (List.replicate (60 - (ss.take i).sum) 0).drop (ss.getD i 0)))⟩) := by
    rw [hfl]
    exact fun H' hH' => rL (k - 1) (by omega) (0 + 2) H' 0 1 64 (m ++ putS (ss.take i) (ns.take i)) (List.replicate (60 - (ss.take i).sum) 0) (ns.getD i default) (4 + (ss.take i).sum : Nat) (ss.getD i 0) hsi (by rw [Ev]; omega) (by rw [Ar]; omega) (by rw [Ev]; omega) (by rw [Ar]; omega) (by rw [Ar, Ev]; omega) hH'
   repeat' (first | refine qS ?_ | refine Gr (hset _ (by exact hH)) rfl rfl rfl ?_ | refine qQb ?_ | refine Ab (fun _ => ?_) (fun _ => ?_))
   refine ⟨hil, ?_, rfl, rfl, rfl, rfl, by show AV.int _ _ = AV.int _ _; congr 1, trivial⟩
   refine Ay (fun z => (⟨1, false, .row 1 (BL z)⟩ : Blk)) ?_
   have hsum : (ss.take (i + 1)).sum = (ss.take i).sum + ss.getD i 0 := by
    rw [Bh hil, List.sum_append]
    simp [hil]
   rw [mP ss ns i h hil, hsum, List.drop_replicate, Adz, Dr m]
   rfl
  ·have hin : i = ss.length := by omega
   repeat' (first | refine qQb ?_ | refine Ab (fun _ => ?_) (fun _ => ?_))
   refine ⟨rfl, rfl, ?_⟩
   rw [hin, Bp, h, Bp] at hH
   rw [hH]
   refine Ay (fun z => (⟨1, false, .row 1 (BL z)⟩ : Blk)) ?_
   unfold Oc
   rw [show 60 - ss.sum = 60 - (m.length + ss.sum) + 4 by omega, ← List.replicate_append_replicate, ← Dr]
   rfl
 rintro ex T2 H2 ⟨rfl, h7, hH⟩
 rw [Has.eq (T := T2) (ps := [(7, _)]) ⟨h7, trivial⟩]
 simp only [over]
 show W _ _
 obtain ⟨u, hseal⟩ := tD (k - 1) (by omega) (0 + 2) H2 0 1 (Oc m ss ns) [0, 0, 0, 0] (Va hm h hs) rfl hH
 repeat' (first | refine qS ?_ | refine Gr hseal rfl rfl rfl ?_ | refine qQb ?_ | refine Ab (fun _ => ?_) (fun _ => ?_))
 refine ⟨Or.inr rfl, _, rfl, ?_⟩
 show fz true (4 + 2) _ (.slc 0 1 64 1 0 64 none) = _
 rw [uP (l := Mo m ss ns) (by exact upd_same _ _ _) (Qm hm h hs)]
def Gu (b m : List UInt8) (ss : List Nat) : List Int × Int :=
 if b.length ≠ 64 then ([], 2) else if b.take 4 ≠ m then ([], 4) else if cC b = false then ([], 5) else
 match Jc b 4 ss with
 | none => ([], 1)
 | some (o, e) => if Kp b e 60 = true then (o, 0) else ([], 1)
def LI (l : List Int) : AV := .islc false false 1 (IL l)
theorem uD (k : Nat) (hk : 1000003 ≤ k) (t f : Bool) (l : List UInt8) (hl : l.length < 1000000) : FnV (CF k) Xh [.islc t f 1 (BL l)] (.bool (cC l)) := by
 obtain ⟨j, rfl⟩ : ∃ j, k = j + 3 := ⟨k - 3, by omega⟩
 exact uN j (by omega) t f l hl
theorem Aby (k : Nat) (hk : 20 ≤ k) (t f : Bool) (l : List UInt8) (a : Int) (s : Nat) (hs : s = 1 ∨ s = 2 ∨ s = 4 ∨ s = 8) (hl : l.length < 1000000) : FnV (CF k) Xy [.islc t f 1 (BL l), .int .i64 a, .int .i64 s] (.tup [.int .i64 (getP l a s).1, .int .i64 (getP l a s).2]) := by
 obtain ⟨j, rfl⟩ : ∃ j, k = j + 1 := ⟨k - 1, by omega⟩
 exact qI j (by omega) t f l a s hs hl
theorem Zy : ∀ {l : List UInt8} {ss : List Nat} {a : Nat} {o : List Int} {e : Nat}, Jc l a ss = some (o, e) → e = a + ss.sum ∧ o.length = ss.length
 | l, [], a, o, e, h => by simp [Jc] at h; simp [h]
 | l, s :: r, a, o, e, h => by
  simp only [Jc] at h
  split at h
  ·simp only [Al] at h
   obtain ⟨⟨o', e'⟩, h1, h2⟩ := h
   obtain ⟨h3, h4⟩ := Zy h1
   simp only [Ah] at h2
   obtain ⟨rfl, rfl⟩ := h2
   simp [h4]; omega
  ·cases h
theorem Aak (H : Heap) (j s : Nat) : fz true 5 (H.newRow j s []) (.slc j ((H j).gen + 1) 0 s 0 0 none) = .islc false false s [] := by
 show fz true (4 + 1) _ _ = _
 rw [Ph (ver := 0) (es := []) (Ek (ro := false) (by simp [Heap.newRow]) rfl) (by omega)]
 rfl
theorem Ry (k : Nat) (hk : 1000020 ≤ k) (t f : Bool) (b m : List UInt8) (ss : List Nat) (hb : b.length < 1000000) (hm : m.length = 4) (hn : ss.length ≤ 100) (hs : ss.sum ≤ 1000) (hss : ∀ s ∈ ss, s = 1 ∨ s = 2 ∨ s = 4 ∨ s = 8) :
  FnV (CF k) Yd [.islc t f 1 (BL b), strB m, .islc false false 2 ((layF 4 ss).map iO)] (.tup [LI (Gu b m ss).1, .int .i64 (Gu b m ss).2]) := by
 have hll := iK 4 ss
 have hg := uD (k - 1) (by omega) t f b hb
 refine fnk (by omega) nK rfl ?_
 unfold Wz strB
 by_cases h0 : b.length ≠ 64
 ·rw [show Gu b m ss = ([], 2) by unfold Gu; rw [if_pos h0]]
  repeat' (first | refine qQb ?_ | refine Ab (fun _ => ?_) (fun _ => ?_) | refine Ax fun _ => ?_)
  exact ⟨Or.inr rfl, _, rfl, rfl⟩
 have h0 := Cw.1 h0
 by_cases h1 : b.take 4 ≠ m
 ·rw [show Gu b m ss = ([], 4) by unfold Gu; rw [if_neg (by simp [h0]), if_pos h1]]
  repeat' (first | refine qS ?_ | refine Adm rfl rfl h1 rfl rfl ?_ | refine qQb ?_ | refine Ab (fun _ => ?_) (fun _ => ?_) | refine Ax fun _ => ?_)
  exact ⟨Or.inr rfl, _, rfl, rfl⟩
 have h1 := Cw.1 h1
 by_cases h2 : cC b = false
 ·rw [show Gu b m ss = ([], 5) by unfold Gu; rw [if_neg (by simp [h0]), if_neg (by simp [h1]), if_pos h2]]
  rw [h2] at hg
  repeat' (first
   | refine qS ?_ | refine kN rfl rfl (by exact Ay (fun z => (⟨z.toArray⟩ : ByteArray)) h1) rfl rfl ?_ | refine Ad hg ?_ | refine qQb ?_
   | refine Ab (fun _ => ?_) (fun _ => ?_) | refine Ax fun _ => ?_)
  exact ⟨Or.inr rfl, _, rfl, rfl⟩
 rw [show Gu b m ss = (match Jc b 4 ss with | none => ([], 1) | some (o, e) => if Kp b e 60 = true then (o, 0) else ([], 1)) by unfold Gu; rw [if_neg (by simp [h0]), if_neg (by simp [h1]), if_neg h2]]
 have h2 : cC b = true := by simpa using h2
 rw [h2] at hg
 repeat' (first | refine qS ?_ | refine kN rfl rfl (by exact Ay (fun z => (⟨z.toArray⟩ : ByteArray)) h1) rfl rfl ?_ | refine Ad hg ?_ | refine qQb ?_ | refine Ab (fun _ => ?_) (fun _ => ?_) | refine Ax fun _ => ?_)
 refine W.mono (Q := fun ex T' H' => (ex = .ret ∧ Jc b 4 ss = none ∧ fz true 5 H' (T' 6) = LI [] ∧ T' 7 = .int .i64 1) ∨
   (ex = .exit 1 ∧ ∃ o e, Jc b 4 ss = some (o, e) ∧ H' 4 = ⟨1, false, .row 1 (IL o)⟩ ∧ Has T' [(0, .islc t f 1 (BL b)), (8, .slc 4 1 o.length 1 0 o.length none), (9, .int .i64 (e : Nat))])) ?_ ?_
 ·refine Fx ss.length (fun i T' H' => ∃ o, Jc b 4 ss = (Jc b (4 + (ss.take i).sum) (ss.drop i)).map (fun x => (o ++ x.1, x.2)) ∧ o.length = i ∧ H' 4 = ⟨1, false, .row 1 (IL o)⟩ ∧
    Has T' [(0, .islc t f 1 (BL b)), (8, .slc 4 1 i 1 0 i none), (9, .int .i64 (4 + (ss.take i).sum : Nat)), (28, .islc false false 2 ((layF 4 ss).map iO)), (29, .int .i64 ss.length), (30, .int .i64 (i : Nat))])
   ⟨[], by simp, rfl, rfl, rfl, rfl, rfl, rfl, by show AV.int _ _ = AV.int _ _; rw [hll], rfl, trivial⟩ (by omega) ?_
  rintro i T H hi ⟨o, hgo, hol, hH, hT⟩
  rw [hT.eq]
  simp only [over]
  by_cases hil : i < ss.length
  ·have hle := Sz ss i hil
   have hsi : ss.getD i 0 = 1 ∨ ss.getD i 0 = 2 ∨ ss.getD i 0 = 4 ∨ ss.getD i 0 = 8 := hss _ (by rw [Aw, Ai hil]; exact Bz hil)
   have hfl := oH ss 4 i hil
   have hget : FnV (CF (k - 1)) Xy [.islc t f 1 (BL b), .int .i64 ((layF 4 ss).getD i default).1, .int .i64 ((layF 4 ss).getD i default).2] (.tup [.int .i64 (getP b (4 + (ss.take i).sum : Nat) (ss.getD i 0)).1, .int .i64 (getP b (4 + (ss.take i).sum : Nat) (ss.getD i 0)).2]) := by
    rw [hfl]
    exact Aby (k - 1) (by omega) t f b _ _ hsi hb
   have hst : Jc b (4 + (ss.take i).sum) (ss.drop i) = if (getP b (4 + (ss.take i).sum : Nat) (ss.getD i 0)).2 = 0 then (Jc b (4 + (ss.take (i + 1)).sum) (ss.drop (i + 1))).map (fun x => ((getP b (4 + (ss.take i).sum : Nat) (ss.getD i 0)).1 :: x.1, x.2)) else none := by
    rw [Cg hil, Bh hil, List.sum_append]
    simp [Jc, hil, bY]
   obtain ⟨p, hp⟩ : ∃ p, p = getP b (4 + (ss.take i).sum : Nat) (ss.getD i 0) := ⟨_, rfl⟩
   rw [← hp] at hget hst
   by_cases he : p.2 = 0
   ·rw [if_pos he] at hst
    have hol2 : (IL o).length = i := by simp [hol]
    have hf1 : ((layF 4 ss).getD (i : Int).toNat default).1 = 4 + (ss.take i).sum := Ay Prod.fst hfl
    have hf2 : ((layF 4 ss).getD (i : Int).toNat default).2 = ss.getD i 0 := Ay Prod.snd hfl
    repeat' (first | refine qS ?_ | refine Ad hget ?_ | refine It rfl rfl rfl (by exact hH) hol2 rfl (by omega) rfl rfl (fun _ => ?_) | refine qQb ?_ | refine Ab (fun _ => ?_) (fun _ => ?_) | refine Ax fun _ => ?_)
    refine ⟨hil, o ++ [p.1], ?_, by simp [hol], by rw [yT]; rfl, rfl, rfl, ?_, rfl, rfl, by show AV.int _ _ = AV.int _ _; congr 1, trivial⟩
    ·rw [hgo, hst, Option.map_map]
     congr 1
     funext x
     simp
    ·show AV.int .i64 ((((layF 4 ss).getD i default).1 : Nat) + (((layF 4 ss).getD i default).2 : Nat) : Int) = _
     rw [hfl, Bh hil, List.sum_append]
     congr 1
     simp [hil]
     omega
   ·rw [if_neg he] at hst
    repeat' (first | refine qS ?_ | refine Ad hget ?_ | refine qQb ?_ | refine Ab (fun _ => ?_) (fun _ => ?_) | refine Ax fun _ => ?_)
    refine .inl ⟨rfl, by rw [hgo, hst]; rfl, ?_, rfl⟩
    exact Aak _ _ _
  ·have hin : i = ss.length := by omega
   repeat' (first | refine qQb ?_ | refine Ab (fun _ => ?_) (fun _ => ?_) | refine Ax fun _ => ?_)
   refine .inr ⟨rfl, o, 4 + ss.sum, ?_, hH, rfl, by rw [hol]; rfl, by rw [hin, Bp]; rfl, trivial⟩
   rw [hgo, hin, Ik, Bp]
   simp [Jc]
 rintro ex T2 H2 (⟨rfl, hno, h6, h7⟩ | ⟨rfl, o, e, hno, hH, hT⟩)
 ·rw [hno]
  refine ⟨Or.inr rfl, _, rfl, ?_⟩
  show AV.tup [fz true 5 H2 (T2 6), fz true 5 H2 (T2 7)] = _
  rw [h7, h6]
  rfl
 ·rw [hno]
  obtain ⟨he, hol⟩ := Zy hno
  have hz := uH (k - 1) (by omega) t f b e 60 hb (by omega) (by omega)
  rw [hT.eq]
  simp only [over]
  show W _ _
  by_cases hzz : Kp b e 60 = true
  ·rw [hzz] at hz
   simp only [hzz, if_true]
   repeat' (first | refine qS ?_ | refine Ad hz ?_ | refine qQb ?_ | refine Ab (fun _ => ?_) (fun _ => ?_) | refine Ax fun _ => ?_)
   refine ⟨Or.inr rfl, _, rfl, ?_⟩
   show AV.tup [fz true (3 + 2) H2 (.slc 4 1 o.length 1 0 o.length none), _] = _
   rw [Aeq hH rfl]
   rfl
  ·rw [dP] at hzz
   rw [hzz] at hz
   simp only [hzz, Ap, Bx]
   repeat' (first | refine qS ?_ | refine Ad hz ?_ | refine qQb ?_ | refine Ab (fun _ => ?_) (fun _ => ?_) | refine Ax fun _ => ?_)
   exact ⟨Or.inr rfl, _, rfl, Ay (fun z => AV.tup [z, .int .i64 1]) (Aak _ _ _)⟩
theorem lV : ∀ {l : List UInt8} {ss : List Nat} {a : Nat} {o : List Int} {e : Nat}, Jc l a ss = some (o, e) → ∃ ns : List Nat, o = ns.map fun n : Nat => (n : Int)
 | l, [], a, o, e, h => by simp [Jc] at h; exact ⟨[], by simp [h]⟩
 | l, s :: r, a, o, e, h => by
  simp only [Jc] at h
  split at h
  ·simp only [Al] at h
   obtain ⟨⟨o', e'⟩, h1, h2⟩ := h
   obtain ⟨ns, rfl⟩ := lV h1
   simp only [Ah] at h2
   obtain ⟨rfl, rfl⟩ := h2
   have : 0 ≤ (getP l a s).1 := by
    unfold getP
    (repeat' split) <;> simp
   exact ⟨(getP l a s).1.toNat :: ns, by simp only [Bc, Int.toNat_of_nonneg this]⟩
  ·cases h
theorem Ux {b m : List UInt8} {ss : List Nat} (h : (Gu b m ss).2 = 0) : ∃ ns : List Nat, (Gu b m ss).1 = ns.map (fun n : Nat => (n : Int)) ∧ ns.length = ss.length := by
 unfold Gu at h ⊢
 by_cases h1 : b.length ≠ 64
 ·rw [if_pos h1] at h; cases h
 rw [if_neg h1] at h ⊢
 by_cases h2 : b.take 4 ≠ m
 ·rw [if_pos h2] at h; cases h
 rw [if_neg h2] at h ⊢
 by_cases h3 : cC b = false
 ·rw [if_pos h3] at h; cases h
 rw [if_neg h3] at h ⊢
 cases hn : Jc b 4 ss with
 | none => rw [hn] at h; cases h
 | some x =>
  obtain ⟨o, e⟩ := x
  rw [hn] at h
  simp only at h ⊢
  split at h
  ·rename_i hz
   rw [if_pos hz]
   obtain ⟨ns, rfl⟩ := lV hn
   have := (Zy hn).2
   exact ⟨ns, rfl, by simpa using this⟩
  ·cases h
structure Sup where
 gen : Nat
 blocks : Nat
 root : Nat
 size : Nat
 first : Nat
 deriving DecidableEq
def Sup.av (s : Sup) : AV := .agg [.int .i64 s.gen, .int .i64 s.blocks, .int .i64 s.root, .int .i64 s.size, .int .i64 s.first]
def sup0 : Sup := ⟨0, 0, 0, 0, 0⟩
def Sup.ok (s : Sup) : Prop := (1 ≤ s.gen ∧ s.gen ≤ 1099511627776) ∧ (4 ≤ s.blocks ∧ s.blocks ≤ 4096) ∧ s.size ≤ 512 ∧ (s.root = 0 ∨ 2 ≤ s.root ∧ s.root < s.blocks) ∧ (s.first = 0 ∨ 2 ≤ s.first ∧ s.first < s.blocks)
instance (s : Sup) : Decidable s.ok := by unfold Sup.ok; infer_instance
theorem Qb (k : Nat) (hk : 2 ≤ k) (s : Sup) (hs : s.gen < 4611686018427387904 ∧ s.blocks < 4611686018427387904 ∧ s.root < 4611686018427387904 ∧ s.size < 4611686018427387904 ∧ s.first < 4611686018427387904) :
  FnV (CF k) Vn [s.av] (.int .i64 (if s.ok then 0 else 1)) := by
 obtain ⟨g, b, r, z, f⟩ := s
 simp only at hs
 have hin := fun n lo hi => tL (k - 1) (by omega) n lo hi
 refine fnk (by omega) jQ rfl ?_
 unfold Tj Sup.av Sup.ok
 simp only
 repeat' (first | refine qS ?_ | refine qN ?_ | refine Vg (hin _ _ _) (fun _ => ?_) (fun _ => ?_) | refine qQb ?_ | refine Ab (fun _ => ?_) (fun _ => ?_))
 all_goals
  refine ⟨Or.inr rfl, _, rfl, ?_⟩
  simp only [cmpP] at *
  show AV.int _ _ = AV.int _ _
  congr 1
  symm
  first
   | exact if_pos (by omega)
   | exact if_neg (by omega)
   | (exfalso; omega)
end Go.Proofs.Ytkaiiopoilpjeaa
