/- Lemmas. -/
import Derived.Test.YtkaiiopoilpjeaaGreatMJ4
import Derived.Test.YtkaiiopoilpjeaaGreatMM
import Derived.Test.YtkaiiopoilpjeaaGreatA30
import Derived.Test.YtkaiiopoilpjeaaGreatMS
set_option linter.unusedSimpArgs false
set_option linter.unusedVariables false
set_option maxRecDepth 10000
set_option maxHeartbeats 16000000
namespace Go.Proofs.YtkaiiopoilpjeaaGreat
open Go.AI
def Oz (n : Nat) (x : IoV) : Prop := x.kind = 1 ∧ x.at0 < n ∧ x.data.length = 64 ∨ x.kind = 2 ∧ x.at0 = 0 ∧ x.data.length = 0
instance (n : Nat) (x : IoV) : Decidable (Oz n x) := by unfold Oz; infer_instance
def Lc (l : List UInt8) (ios : List IoV) : Nat := if ¬ devB l.length then 2 else if (ios.any fun x => !decide (Oz (nb l) x)) = true then 1 else 0
attribute [local irreducible] aops Br Cp Dp aop W WO
theorem Aua (k : Nat) (hk : 1 ≤ k) (x : IoV) (n : Nat) : FnV (CF k) mZ [x.av, .int .i64 n] (.bool (decide (Oz n x))) := by
 obtain ⟨kd, a, d, t, f, s⟩ := x
 have hl : (BL d).length = d.length := by simp
 refine fnk (by omega) Aev rfl ?_
 unfold kE IoV.av Oz
 simp only
 repeat' (first | refine qS ?_ | refine qN ?_ | refine Bh (n := d.length) rfl hl rfl rfl ?_ | refine qQb ?_ | refine Ac (fun _ => ?_) (fun _ => ?_))
 all_goals
  refine ⟨Or.inr rfl, _, rfl, ?_⟩
  first
   | exact Bo AV.bool (As (by simp only [cmpP] at *; omega)).symm
   | exact Bo AV.bool (Bb (by simp only [cmpP] at *; omega)).symm
   | (exfalso; simp only [cmpP] at *; omega)
theorem Aoi (k : Nat) (hk : 2 ≤ k) (x : IoV) (n : Nat) : FnV (CF k) Rf [x.av, .iptr true [.int .i64 n]] (.bool (!decide (Oz n x))) := by
 have hr := Aua (k - 1) (by omega) x n
 obtain ⟨kd, a, d, t, f, s⟩ := x
 unfold IoV.av at hr ⊢
 refine fnk (by omega) uO rfl ?_
 unfold aV
 simp only at hr ⊢
 cases h : decide (Oz n ⟨kd, a, d, t, f, s⟩) with
 | true =>
  rw [h] at hr
  repeat' (first | refine qS ?_ | refine Ae hr ?_ | refine qQb ?_ | fail)
  exact ⟨Or.inr rfl, _, rfl, rfl⟩
 | false =>
  rw [h] at hr
  repeat' (first | refine qS ?_ | refine Ae hr ?_ | refine qQb ?_ | fail)
  exact ⟨Or.inr rfl, _, rfl, rfl⟩
theorem Abz (k : Nat) (hk : 1000030 ≤ k) (t f : Bool) (l : List UInt8) (hl : l.length < 1000000) (t' f' : Bool) (s' : Nat) (ios : List IoV) (hs : s' = 3 ∨ ios = []) (hil : ios.length < 100000) : FnV (CF k) mC [.islc t f 1 (BL l), .islc t' f' s' (ios.map IoV.av)] (.int .i64 (Lc l ios)) := by
 have hck := Zj (k - 1) (by omega) t f 1 l hl
 have hml : (ios.map IoV.av).length = ios.length := Ah _
 refine fnk (by omega) Adu rfl ?_
 unfold kY Lc
 by_cases hd : devB l.length
 rotate_left 1
 ·rw [if_neg hd] at hck
  rw [if_pos hd]
  repeat' (first | refine Al (hck) (fun _ => ?_) (fun _ => ?_) | refine Ae (hck) ?_ | refine qQb ?_ | refine Ac (fun _ => ?_) (fun _ => ?_))
  exact ⟨Or.inr rfl, _, rfl, rfl⟩
 rw [if_pos hd] at hck
 rw [if_neg (fun h => h hd)]
 have hck : FnV (CF (k - 1)) Ur [.islc t f 1 (BL l)] (.tup [.int .i64 (nb l : Nat), .int .i64 0]) := hck
 have hcf : FnV (CF (k - 1)) Dq [.islc t' f' s' (ios.map IoV.av), .fn Rf [.iptr true [.int .i64 (nb l : Nat)]]] (.bool (ios.any fun x => !decide (Oz (nb l) x))) := by
  by_cases hn : ios = []
  ·subst hn
   exact Wk (k - 1) (by omega) t' f' s' _ _ (fun _ => rfl)
  ·obtain rfl : s' = 3 := hs.resolve_right hn
   exact Yo (k - 1) (by omega) t' f' ios Rf [.iptr true [.int .i64 (nb l : Nat)]] (fun x => !decide (Oz (nb l) x)) (by omega) (fun _ => rfl) (fun _ _ => rfl) (fun i hi => Aoi (k - 3) (by omega) _ _)
 cases ha : ios.any fun x => !decide (Oz (nb l) x) with
 | true =>
  rw [ha] at hcf
  rw [if_pos rfl]
  repeat' (first
   | refine qS ?_ | refine Bh (n := ios.length) rfl hml rfl rfl ?_ | refine Ae hcf ?_ | refine Al (hck) (fun _ => ?_) (fun _ => ?_) | refine Ae (hck) ?_ | refine qQb ?_
   | refine Ac (fun _ => ?_) (fun _ => ?_))
  exact ⟨Or.inr rfl, _, rfl, rfl⟩
 | false =>
  rw [ha] at hcf
  rw [if_neg (by decide)]
  repeat' (first
   | refine qS ?_ | refine Bh (n := ios.length) rfl hml rfl rfl ?_ | refine Ae hcf ?_ | refine Al (hck) (fun _ => ?_) (fun _ => ?_) | refine Ae (hck) ?_ | refine qQb ?_
   | refine Ac (fun _ => ?_) (fun _ => ?_))
  exact ⟨Or.inr rfl, _, rfl, rfl⟩
end Go.Proofs.YtkaiiopoilpjeaaGreat
set_option maxRecDepth 10000
set_option maxHeartbeats 16000000
namespace Go.AI
section
variable {cf : Dk} {xf : ExtF} {base : Nat} {T : Tmps} {H : Heap} {QO : Tmps → Heap → Prop} {log : List FP} {g : Option (Nat × Bool)} {un : List Nat} {r : List SOper} {d : Nat} {t f : Bool}
theorem Aph {j gn v off len s s' : Nat} {cap : Option Nat} {x y : SArg} {m es : List AV} (hx : x.ev T = .slc j gn v s off len cap) (hy : y.ev T = .islc t f s' m) (hs : s' = s ∨ m = []) (hn : Ca m = true) (hr : H j = ⟨gn, false, .row s es⟩) (hv : es.length = v) (ho : off + len ≤ v) (hm : m.length ≤ len)
  (hw : Aj T g = some true) (hl : Bn log ⟨[j], [j], false⟩ un = true)
  (h : WO (aops cf xf base r (log ++ [⟨[j], [j], false⟩]) (T.upd d (.int .i64 m.length)) (H.upd j ⟨gn, false, .row s (es.take off ++ m ++ es.drop (off + m.length))⟩)) QO) : WO (aops cf xf base (⟨some d, .copy s x y, g, un⟩ :: r) log T H) QO :=
 Bf (v := .int .i64 m.length) (H' := H.upd j ⟨gn, false, .row s (es.take off ++ m ++ es.drop (off + m.length))⟩) (fp := ⟨[j], [j], false⟩) hw (by
  have hs2 : Ik m = true ∨ s' = s := by
   rcases hs with h | h
   ·exact .inr h
   ·subst h; exact .inl rfl
  simp only [aop, rG, hy, Cy, hs2, if_true, Ad, Ab, hx, hn, Ka, Az, Cn, Kh hr hv, true_and]
  rw [if_pos ho, Ml hm, Ch, Ho hr]) hl h
end
end Go.AI
namespace Go.Proofs.YtkaiiopoilpjeaaGreat
open Go.AI
attribute [local irreducible] aops Br Cp Dp aop W WO
theorem Aln (k : Nat) (hk : 1 ≤ k) (l : List UInt8) (a j g v base : Nat) (hl : l.length = v) (hl2 : v < 1000000) (ha : 64 * (a + 1) ≤ v) (H : Heap) {ro : Bool} (hr : H j = ⟨g, ro, .row 1 (BL l)⟩) :
  CF k Vt base [.slc j g v 1 0 v none, .int .i64 a] H = some (.slc j g v 1 (64 * a) 64 none, H) := by
 have h : ∃ u H', CF k Vt base [.slc j g v 1 0 v none, .int .i64 a] H = some (u, H') ∧ (u = .slc j g v 1 (64 * a) 64 none ∧ H' = H) := by
  refine fni (by omega) Abj rfl ?_
  unfold Aag
  have e1 : ((a : Int) * 64) = ((64 * a : Nat) : Int) := by omega
  have e2 : (((a : Int) + 1) * 64) = ((64 * a + 64 : Nat) : Int) := by omega
  have e3 : 64 * a + 64 - 64 * a = 64 := by omega
  have hbl : (BL l).length = v := by simpa using hl
  repeat' (first
   | refine qS ?_ | (rw [e1]) | (rw [e2])
   | refine Vs (a := 64 * a) (b := 64 * a + 64) rfl (by exact hr) hbl (Ev rfl) (Ev rfl) (by omega) (by show _ ≤ v - 0; omega) (by show 0 + (v - 0) ≤ v; omega) rfl rfl ?_
   | refine qQb ?_ | fail)
  refine ⟨Or.inr rfl, .slc j g v 1 (0 + 64 * a) (64 * a + 64 - 64 * a) none, rfl, ?_, rfl⟩
  rw [Cq, e3]
 obtain ⟨u, H', h1, rfl, rfl⟩ := h
 exact h1
def Xv (l : List UInt8) (ios : List IoV) : AV := if Lc l ios ≠ 0 then .tup [.islc false true 0 [], .int .i64 (Lc l ios)] else .tup [.islc false false 1 (BL (Bt l ios)), .int .i64 0]
theorem wJ {l : List UInt8} {ios : List IoV} (h : Lc l ios = 0) : devB l.length ∧ ∀ x ∈ ios, Oz (nb l) x := by
 unfold Lc at h
 split at h
 ·cases h
 ·rename_i hd
  split at h
  ·cases h
  ·rename_i ha
   refine ⟨Dm.1 hd, fun x hx => ?_⟩
   have := nP _ ▸ ha
   rw [Vq] at this
   have := this x hx
   simpa using this
theorem fA {n : Nat} {x : IoV} (h : Oz n x) : Ada n x := by
 intro hk
 rcases h with h | h
 ·exact ⟨h.2.1, h.2.2⟩
 ·omega
theorem Ahy {k : Nat} {l : List UInt8} {ios : List IoV} {t' f' : Bool} {s' v : Nat} {T : Tmps} {H : Heap} (hk : 1000000 ≤ k) (hv : l.length = v) (hl : v < 1000000) (hil : ios.length < 100000) (hs : s' = 3 ∨ ios = []) (hok : ∀ x ∈ ios, Oz (nb l) x ∧ (x.s = 1 ∨ x.data = []))
  (h0 : H 0 = ⟨1, false, .row 1 (BL l)⟩)
  (hT : Has T [(7, .slc 0 1 v 1 0 v none), (18, .islc t' f' s' (ios.map IoV.av)), (19, .int .i64 ios.length), (20, .int .i64 0)]) :
  W (Br (CF k) noX 0 k (.loop Bdk) T H) (fun ex T' H' => ex = .exit 0 ∧ H' 0 = ⟨1, false, .row 1 (BL (Bt l ios))⟩ ∧ T' 7 = .slc 0 1 v 1 0 v none) := by
 refine Fj ios.length (fun i T' H' => H' 0 = ⟨1, false, .row 1 (BL (Bt l (ios.take i)))⟩ ∧ Has T' [(7, .slc 0 1 v 1 0 v none), (18, .islc t' f' s' (ios.map IoV.av)), (19, .int .i64 ios.length), (20, .int .i64 (i : Nat))]) ⟨h0, hT⟩ (by omega) ?_
 rintro i T H hi ⟨g0, hT⟩
 have hlen : (Bt l (ios.take i)).length = v := by rw [Of _ _ (fun x hx => fA (hok x (Bs hx)).1)]; exact hv
 rw [hT.eq]
 simp only [over]
 unfold Bdk
 by_cases hlt : i < ios.length
 ·obtain rfl : s' = 3 := hs.resolve_right (fun h => by rw [h] at hlt; simp at hlt)
  obtain ⟨⟨kd, a, d, t, f, s⟩, hx⟩ : ∃ x, x = ios[i] := ⟨_, rfl⟩
  have hxo := hok ios[i] (Bw hlt)
  rw [← hx] at hxo
  have he2 : (ios.map IoV.av)[(i : Int).toNat]? = some (.agg [.int .i64 kd, .int .i64 a, .islc t f s (BL d)]) := by
   rw [Bd, Bp, Aa hlt, ← hx]; rfl
  have hst : Bt l (ios.take (i + 1)) = if kd = 1 then wr (Bt l (ios.take i)) a d else Bt l (ios.take i) := by
   rw [Av hlt, ← hx, dB]; rfl
  rw [hst]
  generalize Bt l (ios.take i) = m at *
  obtain ⟨hr, hsd⟩ := hxo
  simp only at hsd
  by_cases hkd : kd = 1
  ·have hkd' : (kd : Int) = 1 := by omega
   rw [if_pos hkd]
   have hra : a < nb l ∧ d.length = 64 := by
    rcases hr with h | h
    ·exact ⟨h.2.1, h.2.2⟩
    ·have := h.1; simp only at this; omega
   have hle : 64 * (a + 1) ≤ v := by have := hra.1; unfold nb at this; omega
   have hsd1 : s = 1 := hsd.resolve_right (fun h => by have := hra.2; rw [h] at this; simp at this)
   subst hsd1
   have hof : ∀ H : Heap, H 0 = ⟨1, false, .row 1 (BL m)⟩ → CF k Vt (0 + 2) (.slc 0 1 v 1 0 v none :: [.int .i64 a]) (Wh H 0 1 (BL m)) = some (.slc 0 1 v 1 (64 * a) 64 none, Wh H 0 1 (BL m)) := fun H h => Aln k (by omega) m a 0 1 v 2 hlen hl hle _ (by rw [Qe, h])
   have hrw : ∀ H : Heap, H 0 = ⟨1, false, .row 1 (BL m)⟩ → ((Wh H 0 1 (BL m)).row 0 1 v 1).isSome = true := fun H h => Sx.2 ⟨BL m, row_some.2 ⟨by rw [Qe, h], by rw [Qe], by simpa using hlen⟩⟩
   have hbm : (BL m).length = v := by simpa using hlen
   have hbd : (BL d).length = 64 := by simpa using hra.2
   repeat' (first
    | refine qS ?_ | refine Da rfl rfl (by omega) he2 rfl rfl ?_
    | refine Asd (j := 0) (s' := 1) (es := BL m) rfl (by exact Bo Blk.st g0) rfl (Lz m) (hof _ (by exact g0)) (hrw _ (by exact g0)) rfl (by kernel_rfl) ?_
    | refine aR (m := BL d) (es := BL m) rfl rfl (.inl rfl) (Lz d) (by exact g0) hbm (by omega) hbd rfl (by kernel_rfl) ?_ | refine Iw (hl := by kernel_rfl) ?_
    | refine Co ?_ (hr := by rfl) | refine Be ?_ (hr := by rfl) (hl := by kernel_rfl) | refine qQba ?_ | refine Ac (fun _ => ?_) (fun _ => ?_))
   refine ⟨hlt, ?_, rfl, rfl, rfl, by show AV.int _ _ = AV.int _ _; congr 1, trivial⟩
   show (⟨1, false, .row 1 ((BL m).take (64 * a) ++ BL d ++ (BL m).drop (64 * a + 64))⟩ : Blk) = _
   unfold wr
   rw [show 64 * (a + 1) = 64 * a + 64 by omega]
   simp [BL]
  ·have hkd' : (kd : Int) ≠ 1 := by omega
   rw [if_neg hkd]
   repeat' (first
    | refine qS ?_ | refine Da rfl rfl (by omega) he2 rfl rfl ?_ | refine Iw (hl := by kernel_rfl) ?_ | refine Co ?_ (hr := by rfl)
    | refine Be ?_ (hr := by rfl) (hl := by kernel_rfl) | refine qQba ?_ | refine Ac (fun _ => ?_) (fun _ => ?_))
   exact ⟨hlt, g0, rfl, rfl, rfl, by show AV.int _ _ = AV.int _ _; congr 1, trivial⟩
 ·have hin : i = ios.length := by omega
  subst hin
  rw [Ch] at g0
  repeat' (first | refine qQb ?_ | refine Ac (fun _ => ?_) (fun _ => ?_))
  exact ⟨rfl, g0, rfl⟩
theorem iD (k : Nat) (hk : 1000050 ≤ k) (t f : Bool) (l : List UInt8) (hl : l.length < 1000000) (t' f' : Bool) (s' : Nat) (ios : List IoV) (hs : s' = 3 ∨ ios = []) (hil : ios.length < 100000) (hio : ∀ x ∈ ios, x.s = 1 ∨ x.data = []) :
  FnV (CF k) Uq [.islc t f 1 (BL l), .islc t' f' s' (ios.map IoV.av)] (Xv l ios) := by
 have hst := Abz (k - 1) (by omega) t f l hl t' f' s' ios hs hil
 have hml : (ios.map IoV.av).length = ios.length := Ah _
 refine fnk (by omega) Acq rfl ?_
 unfold dev_Apply Xv
 by_cases he : Lc l ios = 0
 ·rw [if_neg (fun h => h he)]
  obtain ⟨hd, hok⟩ := wJ he
  rw [he] at hst
  have hne : BL l ≠ [] := by
   intro h
   have : l.length = 0 := by have := Bo List.length h; simpa using this
   unfold devB at hd; omega
  have hcl := Aeg (k - 1) (by omega) t f (BL l) hne (Lz l) (fun H => Aim true 5 H l) (by simpa using hl)
  have hbl : (BL l).length = l.length := by simp
  repeat' (first
   | refine qS ?_ | refine Wd hcl hbl rfl rfl rfl ?_ | refine Bh (n := ios.length) rfl hml rfl rfl ?_ | refine Al (hst) (fun _ => ?_) (fun _ => ?_) | refine Ae (hst) ?_
   | refine qQb ?_ | refine Ac (fun _ => ?_) (fun _ => ?_))
  refine W.mono (Ahy (k := k - 1) (l := l) (ios := ios) (t' := t') (f' := f') (s' := s') (v := l.length) (by omega) rfl hl hil hs (fun x hx => ⟨hok x hx, hio x hx⟩) rfl ⟨rfl, rfl, rfl, rfl, trivial⟩) ?_
  rintro ex T2 H2 ⟨rfl, g0, h7⟩
  rw [Has.eq (T := T2) (ps := [(7, _)]) ⟨h7, trivial⟩]
  simp only [over]
  show W _ _
  repeat' (first | refine qQb ?_ | refine Ac (fun _ => ?_) (fun _ => ?_))
  refine ⟨Or.inr rfl, .tup [.slc 0 1 l.length 1 0 l.length none, .int .i64 0], rfl, ?_⟩
  show AV.tup [fz true (3 + 2) H2 (.slc 0 1 l.length 1 0 l.length none), _] = _
  have hal : (Bt l ios).length = l.length := Of _ _ (fun x hx => fA (hok x hx))
  rw [zR (Fv g0 (by simpa using hal)) (by omega), Cb, Ai (by omega)]; rfl
 ·rw [if_pos he]
  have he' : (Lc l ios : Int) ≠ 0 := by omega
  repeat' (first | refine Al (hst) (fun _ => ?_) (fun _ => ?_) | refine Ae (hst) ?_ | refine qQb ?_ | refine Ac (fun _ => ?_) (fun _ => ?_))
  exact ⟨Or.inr rfl, _, rfl, rfl⟩
def newP (n : Nat) : List UInt8 := supB ⟨1, n, 0, 0, 0⟩ ++ List.replicate (64 * n - 64) 0
theorem Aux (k : Nat) (hk : 1000050 ≤ k) (n : Nat) (hn : 4 ≤ n ∧ n ≤ 4096) : FnV (CF k) Xg [.int .i64 n] (.tup [.islc false false 1 (BL (newP n)), .int .i64 0]) := by
 have hsb := dP (k - 1) (by omega) ⟨1, n, 0, 0, 0⟩ (by simp only; omega)
 rw [if_pos (show Sup.ok ⟨1, n, 0, 0, 0⟩ from ⟨⟨by simp only; omega, by simp only; omega⟩, ⟨hn.1, hn.2⟩, by simp only; omega, .inl rfl, .inl rfl⟩)] at hsb
 have hbl : (BL (supB ⟨1, n, 0, 0, 0⟩)).length = 64 := by simp; rfl
 unfold Sup.av at hsb
 simp only at hsb
 refine fnk (by omega) Ahx rfl ?_
 unfold pI
 have hrl : (List.replicate (64 * n) (AV.int .u8 0)).length = 64 * n := by simp
 have hnr : Ca (BL (supB ⟨1, n, 0, 0, 0⟩)) = true := Lz _
 repeat' (first
  | refine qS ?_ | refine qN ?_ | refine Un (64 * n) rfl rfl (by push_cast; omega) (by omega) rfl rfl rfl ?_
  | refine Kz (cs := [.int .i64 1, .int .i64 n, .int .i64 0, .int .i64 0, .int .i64 0]) ?_ (hc := by kernel_rfl)
  | refine Aph (m := BL (supB ⟨1, n, 0, 0, 0⟩)) (es := List.replicate (64 * n) (AV.int .u8 0)) rfl rfl (.inl rfl) hnr rfl hrl (by omega) (by omega) rfl (by kernel_rfl) ?_
  | refine Al (hsb) (fun _ => ?_) (fun _ => ?_) | refine Ae (hsb) ?_ | refine qQb ?_ | refine Ac (fun _ => ?_) (fun _ => ?_))
 refine ⟨Or.inr rfl, .tup [.slc 0 1 (64 * n) 1 0 (64 * n) none, .int .i64 0], rfl, ?_⟩
 have hrow : (List.replicate (64 * n) (AV.int .u8 0)).take 0 ++ BL (supB ⟨1, n, 0, 0, 0⟩) ++ (List.replicate (64 * n) (AV.int .u8 0)).drop (0 + (BL (supB ⟨1, n, 0, 0, 0⟩)).length) = BL (newP n) := by
  rw [Nr, Dd, hbl, List.drop_replicate]
  unfold newP
  rw [show ∀ a b : List UInt8, BL (a ++ b) = BL a ++ BL b from fun _ _ => Bq, Cq]
  congr 1
  unfold BL
  rw [Ij]; rfl
 have hlen : (newP n).length = 64 * n := by
  unfold newP
  rw [An, Nx, Gh]; omega
 have hr := Bo (fun x => (⟨1, false, .row 1 x⟩ : Blk)) hrow
 refine Bo (fun x => AV.tup [x, .int .i64 0]) (a₁ := fz true (3 + 2) _ (.slc 0 1 (64 * n) 1 0 (64 * n) none)) ?_
 exact Afm (l := newP n) hr hlen
end Go.Proofs.YtkaiiopoilpjeaaGreat
set_option maxRecDepth 10000
set_option maxHeartbeats 16000000
namespace Go.Proofs.YtkaiiopoilpjeaaGreat
open Go.AI
attribute [local irreducible] aops Br Cp Dp aop W WO
theorem Atq (k : Nat) (hk : 1000001 ≤ k) (t f t' f' : Bool) (s s' : Nat) (a b : List UInt8) (ha : a.length < 1000000) (hb : b.length < 1000000) (hs : s = 1 ∨ a = []) (hs' : s' = 1 ∨ b = []) :
  FnV (CF k) Wu [.islc t f s (BL a), .islc t' f' s' (BL b)] (.bool (decide (a = b))) := by
 obtain ⟨k, rfl⟩ : ∃ j, k = j + 1 := ⟨k - 1, by omega⟩
 exact zB k (by omega) t f t' f' s s' a b ha hb hs hs'
theorem Bmc (k : Nat) (hk : 1 ≤ k) (t f : Bool) (l : List UInt8) (hl : l.length < 1000000) : FnV (CF k) Bbh [.islc t f 1 (BL l)] (.islc false false 1 (BL l)) := by
 refine fnk (by omega) Bek rfl ?_
 unfold Bbr
 repeat' (first | refine qS ?_ | refine Avc (l := []) rfl rfl (.inl rfl) rfl rfl (by omega) rfl rfl (fun _ => ?_) | refine qQb ?_ | refine Bl fun _ => ?_)
 exact ⟨Or.inr rfl, _, rfl, Afm (l := l) rfl (by simp)⟩
end Go.Proofs.YtkaiiopoilpjeaaGreat
