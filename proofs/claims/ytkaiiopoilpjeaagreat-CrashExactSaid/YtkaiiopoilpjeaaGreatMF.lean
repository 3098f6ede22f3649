/- Lemmas. -/
import Derived.Test.YtkaiiopoilpjeaaGreatMM
import Derived.Test.YtkaiiopoilpjeaaGreatMD1
import Derived.Test.YtkaiiopoilpjeaaGreatME2
import Derived.Test.YtkaiiopoilpjeaaGreatMN
import Derived.Test.YtkaiiopoilpjeaaGreatMD2
set_option linter.unusedSimpArgs false
set_option linter.unusedVariables false
set_option maxHeartbeats 16000000
set_option maxRecDepth 10000
namespace Go.Proofs.YtkaiiopoilpjeaaGreat
open Go.AI
def Ayg : List IoV → Nat → List Nat
 | [], _ => []
 | x :: r, i => (if x.kind = 2 then [i] else []) ++ Ayg r (i + 1)
def Zs (l : List IoV) : List Nat := Ayg l 0
theorem Azr : ∀ (a b : List IoV) (i : Nat), Ayg (a ++ b) i = Ayg a i ++ Ayg b (i + a.length)
 | [], b, i => by simp [Ayg]
 | x :: a, b, i => by
  have h := Azr a b (i + 1)
  simp only [Jt, Ayg, Ao, h, Cf]
  rw [show i + 1 + a.length = i + (a.length + 1) by omega]
theorem Azh : ∀ (l : List IoV) (i : Nat), (∀ a ∈ Ayg l i, i ≤ a ∧ a < i + l.length) ∧ (Ayg l i).Pairwise (· < ·)
 | [], i => ⟨fun a h => (by cases h), List.Pairwise.nil⟩
 | x :: r, i => by
  obtain ⟨h1, h2⟩ := Azh r (i + 1)
  unfold Ayg
  refine ⟨fun a h => ?_, ?_⟩
  ·rcases Bi.1 h with h | h
   ·split at h
    ·rw [Bg] at h; subst h; simp
    ·cases h
   ·have := h1 a h; simp only [Ao]; omega
  ·split
   ·rw [List.singleton_append, List.pairwise_cons]
    exact ⟨fun a h => by have := h1 a h; omega, h2⟩
   ·exact h2
theorem Ays {l : List IoV} {i : Nat} (h : i < l.length) : Zs (l.take (i + 1)) = Zs (l.take i) ++ (if l[i].kind = 2 then [i] else []) := by
 unfold Zs
 rw [Av h, Azr]
 congr 1
 have e : (l.take i).length = i := by rw [Bc]; omega
 rw [e, Cq]
 unfold Ayg
 simp [Ayg]
theorem rA (l : List IoV) : (Zs l).length ≤ l.length := by
 have h : ∀ (l : List IoV) (i : Nat), (Ayg l i).length ≤ l.length := by
  intro l
  induction l with
  | nil => intro i; simp [Ayg]
  | cons x r ih =>
   intro i
   unfold Ayg
   have := ih (i + 1)
   rw [An, Ao]
   split <;> simp <;> omega
 exact h l 0
def Bap (l : List IoV) : Nat := (Zs l).getD ((Zs l).length - 1) 0
def Ayp (safe : Nat) (keep : List Bool) : List IoV → Nat → Nat → List IoV
 | [], _, _ => []
 | x :: r, i, o => if x.kind ≠ 1 then Ayp safe keep r (i + 1) o else if i < safe then x :: Ayp safe keep r (i + 1) o
  else if keep.getD o false = true then x :: Ayp safe keep r (i + 1) (o + 1) else Ayp safe keep r (i + 1) (o + 1)
def Ayb (safe : Nat) (keep : List Bool) : List IoV → Nat → Nat → List UInt8 → List UInt8
 | [], _, _, m => m
 | x :: r, i, o, m => if x.kind ≠ 1 then Ayb safe keep r (i + 1) o m else if i < safe then Ayb safe keep r (i + 1) o (wr m x.at0 x.data)
  else if keep.getD o false = true then Ayb safe keep r (i + 1) (o + 1) (wr m x.at0 x.data) else Ayb safe keep r (i + 1) (o + 1) m
theorem Azk {safe : Nat} {keep : List Bool} : ∀ (l : List IoV) (i o : Nat) (m : List UInt8), Ayb safe keep l i o m = Bt m (Ayp safe keep l i o)
 | [], _, _, m => rfl
 | x :: r, i, o, m => by
  unfold Ayb Ayp
  by_cases hk : x.kind = 1
  ·have hk2 : ¬ (x.kind ≠ 1) := fun h => h hk
   rw [if_neg hk2, if_neg hk2]
   have e : ∀ s, Bt m (x :: s) = Bt (wr m x.at0 x.data) s := fun s => by
    show Bt (if x.kind = 1 then wr m x.at0 x.data else m) s = _
    rw [if_pos hk]
   by_cases h1 : i < safe
   ·rw [if_pos h1, if_pos h1, e, Azk r]
   ·rw [if_neg h1, if_neg h1]
    by_cases h2 : keep.getD o false = true
    ·rw [if_pos h2, if_pos h2, e, Azk r]
    ·rw [if_neg h2, if_neg h2, Azk r]
  ·rw [if_pos hk, if_pos hk, Azk r]
def pE (l : List UInt8) (ios : List IoV) (cut : Nat) (keep : List Bool) : List UInt8 := Ayb (Bap (ios.take cut)) keep (ios.take cut) 0 0 l
theorem Ayi {safe : Nat} {keep : List Bool} : ∀ (l : List IoV) (i o : Nat), ∀ x ∈ Ayp safe keep l i o, x ∈ l ∧ x.kind = 1
 | [], _, _, x, h => by cases h
 | y :: r, i, o, x, h => by
  unfold Ayp at h
  split at h
  ·have := Ayi r _ _ x h; exact ⟨by simp [this.1], this.2⟩
  ·rename_i hk
   have hk := Dm.1 hk
   split at h
   ·rcases Ap.1 h with rfl | h
    ·exact ⟨by simp, hk⟩
    ·have := Ayi r _ _ x h; exact ⟨by simp [this.1], this.2⟩
   ·split at h
    ·rcases Ap.1 h with rfl | h
     ·exact ⟨by simp, hk⟩
     ·have := Ayi r _ _ x h; exact ⟨by simp [this.1], this.2⟩
    ·have := Ayi r _ _ x h; exact ⟨by simp [this.1], this.2⟩
theorem Bkb (l : List UInt8) (ios : List IoV) (cut : Nat) (keep : List Bool) : pE l ios cut keep = Bt l (Ayp (Bap (ios.take cut)) keep (ios.take cut) 0 0) := Azk _ _ _ _
theorem Bcq {l : List UInt8} {ios : List IoV} {cut : Nat} {keep : List Bool} (h : ∀ x ∈ ios, Ada (nb l) x) : (pE l ios cut keep).length = l.length := by
 rw [Bkb]
 exact Of _ _ fun x hx => h x (Bs (Ayi _ _ _ x hx).1)
attribute [local irreducible] aops Br Cp Dp aop W WO
theorem Bhq {k : Nat} {t f : Bool} {s : Nat} {ios : List IoV} {T : Tmps} {H : Heap} (hk : 1000000 ≤ k) (hs : s = 3 ∨ ios = []) (hl : ios.length < 100000) (h1 : H 1 = ⟨1, false, .row 1 []⟩)
  (hT : Has T [(3, .slc 1 1 0 1 0 0 none), (6, .islc t f s (ios.map IoV.av)), (7, .int .i64 ios.length), (8, .int .i64 0)]) :
  W (Br (CF k) noX 0 k (.loop Ayo) T H) (fun ex T' H' => ex = .exit 0 ∧ H' 1 = ⟨1, false, .row 1 (NL (Zs ios))⟩ ∧ T' 3 = .slc 1 1 (Zs ios).length 1 0 (Zs ios).length none) := by
 refine Fj ios.length (fun i T' H' => H' 1 = ⟨1, false, .row 1 (NL (Zs (ios.take i)))⟩ ∧ Has T' [(3, .slc 1 1 (Zs (ios.take i)).length 1 0 (Zs (ios.take i)).length none), (6, .islc t f s (ios.map IoV.av)), (7, .int .i64 ios.length), (8, .int .i64 (i : Nat))]) ⟨h1, hT⟩ (by omega) ?_
 rintro i T H hi ⟨g1, hT⟩
 rw [hT.eq]
 simp only [over]
 unfold Ayo
 by_cases hlt : i < ios.length
 ·obtain rfl : s = 3 := hs.resolve_right (fun h => by rw [h] at hlt; simp at hlt)
  have hst := Ays hlt
  obtain ⟨⟨kd, a, d, dt, df, ds⟩, hx⟩ : ∃ x, x = ios[i] := ⟨_, rfl⟩
  rw [← hx] at hst
  have he2 : (ios.map IoV.av)[(i : Int).toNat]? = some (.agg [.int .i64 kd, .int .i64 a, .islc dt df ds (BL d)]) := by
   rw [Bd, Bp, Aa hlt, ← hx]; rfl
  rw [hst]
  have hfl : (Zs (ios.take i)).length ≤ i := Ic (rA _) (by rw [Bc]; omega)
  generalize Zs (ios.take i) = F at *
  have hfn : (NL F).length = F.length := Bm F
  simp only
  by_cases h2 : kd = 2
  ·have h2' : (kd : Int) = 2 := by omega
   rw [if_pos h2]
   repeat' (first
    | refine qS ?_ | refine Da rfl rfl (by omega) he2 rfl rfl ?_ | refine Bhm rfl rfl rfl (by exact g1) hfn rfl (by omega) rfl rfl (fun _ => ?_) | refine qQba ?_
    | refine Ac (fun _ => ?_) (fun _ => ?_) | refine Bl fun _ => ?_)
   refine ⟨hlt, ?_, ?_, rfl, rfl, by show AV.int _ _ = AV.int _ _; congr 1, trivial⟩
   ·rw [iV]; rfl
   ·rw [An]; rfl
  ·have h2' : (kd : Int) ≠ 2 := by omega
   rw [if_neg h2, Bv]
   repeat' (first | refine qS ?_ | refine Da rfl rfl (by omega) he2 rfl rfl ?_ | refine qQba ?_ | refine Ac (fun _ => ?_) (fun _ => ?_) | refine Bl fun _ => ?_)
   exact ⟨hlt, g1, rfl, rfl, rfl, by show AV.int _ _ = AV.int _ _; congr 1, trivial⟩
 ·have hin : i = ios.length := by omega
  subst hin
  rw [Ch] at g1 ⊢
  repeat' (first | refine qQb ?_ | refine Ac (fun _ => ?_) (fun _ => ?_) | refine Bl fun _ => ?_)
  exact ⟨rfl, g1, rfl⟩
theorem Bed (k : Nat) (hk : 1000001 ≤ k) (t f : Bool) (s : Nat) (ios : List IoV) (hs : s = 3 ∨ ios = []) (hl : ios.length < 100000) : FnV (CF k) Azt [.islc t f s (ios.map IoV.av)] (.islc false false 1 (NL (Zs ios))) := by
 have hml : (ios.map IoV.av).length = ios.length := Ah _
 refine fnk (by omega) Bco rfl ?_
 unfold dev_Flushes
 repeat' (first | refine qS ?_ | refine Bh (n := ios.length) rfl hml rfl rfl ?_ | refine qQb ?_ | refine Ac (fun _ => ?_) (fun _ => ?_) | refine Bl fun _ => ?_)
 refine W.mono (Bhq (k := k - 1) (t := t) (f := f) (s := s) (ios := ios) (by omega) hs hl rfl ⟨rfl, rfl, rfl, rfl, trivial⟩) ?_
 rintro ex T2 H2 ⟨rfl, g1, h3⟩
 rw [Has.eq (T := T2) (ps := [(3, _)]) ⟨h3, trivial⟩]
 simp only [over]
 show W _ _
 repeat' (first | refine qQb ?_ | refine Ac (fun _ => ?_) (fun _ => ?_) | refine Bl fun _ => ?_)
 refine ⟨Or.inr rfl, _, rfl, ?_⟩
 show fz true (4 + 2) H2 (AV.slc _ _ _ _ _ _ _) = _
 exact Gb g1 rfl 4
theorem Bjb {k : Nat} {l : List UInt8} {ios : List IoV} {keep : List Bool} {safe : Nat} {sf : Int} {t' f' t3 f3 : Bool} {s' s3 v : Nat} {T : Tmps} {H : Heap} (hk : 1000000 ≤ k) (hv : l.length = v) (hl : v < 1000000) (hil : ios.length < 100000) (hs : s' = 3 ∨ ios = []) (hok : ∀ x ∈ ios, Oz (nb l) x ∧ (x.s = 1 ∨ x.data = []))
  (hs3 : s3 = 1 ∨ keep = []) (hkl : keep.length < 100000) (hsf : ∀ i : Nat, (i : Int) < sf ↔ i < safe)
  (h0 : H 0 = ⟨1, false, .row 1 (BL l)⟩)
  (hT : Has T [(3, .islc t3 f3 s3 (keep.map AV.bool)), (11, .int .i64 sf), (13, .slc 0 1 v 1 0 v none), (14, .int .i64 0), (51, .islc t' f' s' (ios.map IoV.av)), (52, .int .i64 ios.length), (53, .int .i64 0)]) :
  W (Br (CF k) noX 0 k (.loop Bam) T H) (fun ex T' H' => ex = .exit 1 ∧ H' 0 = ⟨1, false, .row 1 (BL (Ayb safe keep ios 0 0 l))⟩ ∧ T' 13 = .slc 0 1 v 1 0 v none) := by
 generalize hG : Ayb safe keep ios 0 0 l = tot
 refine Fj ios.length (fun i T' H' => ∃ m o, tot = Ayb safe keep (ios.drop i) i o m ∧ m.length = v ∧ o ≤ i ∧ H' 0 = ⟨1, false, .row 1 (BL m)⟩ ∧
   Has T' [(3, .islc t3 f3 s3 (keep.map AV.bool)), (11, .int .i64 sf), (13, .slc 0 1 v 1 0 v none), (14, .int .i64 (o : Nat)), (51, .islc t' f' s' (ios.map IoV.av)), (52, .int .i64 ios.length), (53, .int .i64 (i : Nat))]) ⟨l, 0, hG.symm, hv, Au _, h0, hT⟩ (by omega) ?_
 rintro i T H hi ⟨m, o, hgo, hm, hoi, g0, hT⟩
 rw [hT.eq]
 simp only [over]
 unfold Bam
 by_cases hlt : i < ios.length
 ·obtain rfl : s' = 3 := hs.resolve_right (fun h => by rw [h] at hlt; simp at hlt)
  rw [Cm hlt] at hgo
  obtain ⟨⟨kd, a, d, t, f, s⟩, hx⟩ : ∃ x, x = ios[i] := ⟨_, rfl⟩
  have hxo := hok ios[i] (Bw hlt)
  rw [← hx] at hxo hgo
  have he2 : (ios.map IoV.av)[(i : Int).toNat]? = some (.agg [.int .i64 kd, .int .i64 a, .islc t f s (BL d)]) := by
   rw [Bd, Bp, Aa hlt, ← hx]; rfl
  obtain ⟨hr, hsd⟩ := hxo
  unfold Ayb at hgo
  simp only at hsd hgo
  have hkm : (keep.map AV.bool).length = keep.length := Ah _
  by_cases hkd : kd = 1
  ·have hkd' : (kd : Int) = 1 := by omega
   rw [if_neg (fun h => h hkd)] at hgo
   have hra : a < nb l ∧ d.length = 64 := by
    rcases hr with h | h
    ·exact ⟨h.2.1, h.2.2⟩
    ·have := h.1; simp only at this; omega
   have hle : 64 * (a + 1) ≤ v := by have := hra.1; unfold nb at this; omega
   have hsd1 : s = 1 := hsd.resolve_right (fun h => by have := hra.2; rw [h] at this; simp at this)
   subst hsd1
   have hwl : (wr m a d).length = v := by rw [yT (by rw [hm]; exact hle) hra.2]; exact hm
   have hof : ∀ H : Heap, H 0 = ⟨1, false, .row 1 (BL m)⟩ → CF k Vt (0 + 2) (.slc 0 1 v 1 0 v none :: [.int .i64 a]) (Wh H 0 1 (BL m)) = some (.slc 0 1 v 1 (64 * a) 64 none, Wh H 0 1 (BL m)) := fun H h => Aln k (by omega) m a 0 1 v 2 hm hl hle _ (by rw [Qe, h])
   have hrw : ∀ H : Heap, H 0 = ⟨1, false, .row 1 (BL m)⟩ → ((Wh H 0 1 (BL m)).row 0 1 v 1).isSome = true := fun H h => Sx.2 ⟨BL m, row_some.2 ⟨by rw [Qe, h], by rw [Qe], by simpa using hm⟩⟩
   have hbm : (BL m).length = v := by simpa using hm
   have hbd : (BL d).length = 64 := by simpa using hra.2
   have hnew : (⟨1, false, .row 1 ((BL m).take (64 * a) ++ BL d ++ (BL m).drop (64 * a + 64))⟩ : Blk) = ⟨1, false, .row 1 (BL (wr m a d))⟩ := by
    unfold wr
    rw [show 64 * (a + 1) = 64 * a + 64 by omega]
    simp [BL]
   by_cases hsi : i < safe
   ·have hsi' : (i : Int) < sf := (hsf i).2 hsi
    rw [if_pos hsi] at hgo
    repeat' (first
     | refine qS ?_ | refine qN ?_ | refine Da rfl rfl (by omega) he2 rfl rfl ?_
     | refine Asd (j := 0) (s' := 1) (es := BL m) rfl (by exact Bo Blk.st g0) rfl (Lz m) (hof _ (by exact g0)) (hrw _ (by exact g0)) rfl (by kernel_rfl) ?_
     | refine aR (m := BL d) (es := BL m) rfl rfl (.inl rfl) (Lz d) (by exact g0) hbm (by omega) hbd rfl (by kernel_rfl) ?_ | refine Iw (hl := by kernel_rfl) ?_
     | refine Co ?_ (hr := by rfl) | refine Be ?_ (hr := by rfl) (hl := by kernel_rfl) | refine qQba ?_ | refine Ac (fun _ => ?_) (fun _ => ?_))
    exact ⟨hlt, wr m a d, o, hgo, hwl, by omega, hnew, rfl, rfl, rfl, rfl, rfl, rfl, by show AV.int _ _ = AV.int _ _; congr 1, trivial⟩
   ·have hsi' : ¬ (i : Int) < sf := fun h => hsi ((hsf i).1 h)
    rw [if_neg hsi] at hgo
    by_cases hok2 : o < keep.length
    ·have hok2' : (o : Int) < (keep.length : Int) := by omega
     obtain rfl : s3 = 1 := hs3.resolve_right (fun h => by rw [h] at hok2; simp at hok2)
     have he3 : (keep.map AV.bool)[(o : Int).toNat]? = some (.bool keep[o]) := by
      rw [Bd, Bp, Aa hok2]; rfl
     have hgd : keep.getD o false = keep[o] := by simp [hok2]
     rw [hgd] at hgo
     generalize keep[o] = kb at *
     cases kb with
     | true =>
      rw [if_pos rfl] at hgo
      repeat' (first
       | refine qS ?_ | refine qN ?_ | refine Da rfl rfl (by omega) he2 rfl rfl ?_ | refine Da rfl rfl (by omega) he3 rfl rfl ?_
       | refine Bh (n := keep.length) rfl hkm rfl rfl ?_
       | refine Asd (j := 0) (s' := 1) (es := BL m) rfl (by exact Bo Blk.st g0) rfl (Lz m) (hof _ (by exact g0)) (hrw _ (by exact g0)) rfl (by kernel_rfl) ?_
       | refine aR (m := BL d) (es := BL m) rfl rfl (.inl rfl) (Lz d) (by exact g0) hbm (by omega) hbd rfl (by kernel_rfl) ?_ | refine Iw (hl := by kernel_rfl) ?_
       | refine Co ?_ (hr := by rfl) | refine Be ?_ (hr := by rfl) (hl := by kernel_rfl) | refine qQba ?_ | refine Ac (fun _ => ?_) (fun _ => ?_))
      exact ⟨hlt, wr m a d, o + 1, hgo, hwl, by omega, hnew, rfl, rfl, rfl, by show AV.int _ _ = AV.int _ _; congr 1, rfl, rfl, by show AV.int _ _ = AV.int _ _; congr 1, trivial⟩
     | false =>
      rw [if_neg (by decide)] at hgo
      repeat' (first
       | refine qS ?_ | refine qN ?_ | refine Da rfl rfl (by omega) he2 rfl rfl ?_ | refine Da rfl rfl (by omega) he3 rfl rfl ?_
       | refine Bh (n := keep.length) rfl hkm rfl rfl ?_ | refine Iw (hl := by kernel_rfl) ?_ | refine Co ?_ (hr := by rfl)
       | refine Be ?_ (hr := by rfl) (hl := by kernel_rfl) | refine qQba ?_ | refine Ac (fun _ => ?_) (fun _ => ?_))
      exact ⟨hlt, m, o + 1, hgo, hm, by omega, g0, rfl, rfl, rfl, by show AV.int _ _ = AV.int _ _; congr 1, rfl, rfl, by show AV.int _ _ = AV.int _ _; congr 1, trivial⟩
    ·have hok2' : ¬ (o : Int) < (keep.length : Int) := by omega
     have hgd : keep.getD o false = false := by simp [Af, Dt (by omega : keep.length ≤ o)]
     rw [hgd, if_neg (by decide)] at hgo
     repeat' (first
      | refine qS ?_ | refine qN ?_ | refine Da rfl rfl (by omega) he2 rfl rfl ?_ | refine Bh (n := keep.length) rfl hkm rfl rfl ?_ | refine Iw (hl := by kernel_rfl) ?_
      | refine Co ?_ (hr := by rfl) | refine Be ?_ (hr := by rfl) (hl := by kernel_rfl) | refine qQba ?_ | refine Ac (fun _ => ?_) (fun _ => ?_))
     exact ⟨hlt, m, o + 1, hgo, hm, by omega, g0, rfl, rfl, rfl, by show AV.int _ _ = AV.int _ _; congr 1, rfl, rfl, by show AV.int _ _ = AV.int _ _; congr 1, trivial⟩
  ·have hkd' : (kd : Int) ≠ 1 := by omega
   rw [if_pos hkd] at hgo
   repeat' (first
    | refine qS ?_ | refine qN ?_ | refine Da rfl rfl (by omega) he2 rfl rfl ?_ | refine Iw (hl := by kernel_rfl) ?_ | refine Co ?_ (hr := by rfl)
    | refine Be ?_ (hr := by rfl) (hl := by kernel_rfl) | refine qQba ?_ | refine Ac (fun _ => ?_) (fun _ => ?_))
   exact ⟨hlt, m, o, hgo, hm, by omega, g0, rfl, rfl, rfl, rfl, rfl, rfl, by show AV.int _ _ = AV.int _ _; congr 1, trivial⟩
 ·have hin : i = ios.length := by omega
  subst hin
  rw [Lh] at hgo
  unfold Ayb at hgo
  repeat' (first | refine qS ?_ | refine qN ?_ | refine qQb ?_ | refine Ac (fun _ => ?_) (fun _ => ?_))
  exact ⟨rfl, by rw [hgo]; exact g0, rfl⟩
def Bgz (l : List UInt8) (ios : List IoV) (cut : Int) (keep : List Bool) : AV :=
 if Lc l ios ≠ 0 then .tup [.islc false true 0 [], .int .i64 (Lc l ios)] else if cut < 0 ∨ (ios.length : Int) < cut then .tup [.islc false true 0 [], .int .i64 1]
 else .tup [.islc false false 1 (BL (pE l ios cut.toNat keep)), .int .i64 0]
theorem Blm (k : Nat) (hk : 1000050 ≤ k) (t f : Bool) (l : List UInt8) (hl : l.length < 1000000) (t' f' : Bool) (s' : Nat) (ios : List IoV) (hs : s' = 3 ∨ ios = []) (hil : ios.length < 100000) (hio : ∀ x ∈ ios, x.s = 1 ∨ x.data = []) (cut : Int) (t3 f3 : Bool) (s3 : Nat) (keep : List Bool) (hs3 : s3 = 1 ∨ keep = []) (hkl : keep.length < 100000) :
  FnV (CF k) Bay [.islc t f 1 (BL l), .islc t' f' s' (ios.map IoV.av), .int .i64 cut, .islc t3 f3 s3 (keep.map AV.bool)] (Bgz l ios cut keep) := by
 have hst := Abz (k - 1) (by omega) t f l hl t' f' s' ios hs hil
 have hml : (ios.map IoV.av).length = ios.length := Ah _
 refine fnk (by omega) Beh rfl ?_
 unfold dev_Crash Bgz
 by_cases he : Lc l ios = 0
 rotate_left 1
 ·rw [if_pos he]
  have he' : (Lc l ios : Int) ≠ 0 := by omega
  repeat' (first | refine qS ?_ | refine qN ?_ | refine Al (hst) (fun _ => ?_) (fun _ => ?_) | refine Ae (hst) ?_ | refine qQb ?_ | refine Ac (fun _ => ?_) (fun _ => ?_))
  exact ⟨Or.inr rfl, _, rfl, rfl⟩
 rw [if_neg (fun h => h he)]
 obtain ⟨hd, hok⟩ := wJ he
 rw [he] at hst
 by_cases h0 : cut < 0
 ·rw [if_pos (.inl h0)]
  repeat' (first | refine qS ?_ | refine qN ?_ | refine Bh (n := ios.length) rfl hml rfl rfl ?_ | refine Al (hst) (fun _ => ?_) (fun _ => ?_) | refine Ae (hst) ?_ | refine qQb ?_ | fail)
  exact ⟨Or.inr rfl, _, rfl, rfl⟩
 by_cases h1 : (ios.length : Int) < cut
 ·rw [if_pos (.inr h1)]
  repeat' (first | refine qS ?_ | refine qN ?_ | refine Bh (n := ios.length) rfl hml rfl rfl ?_ | refine Al (hst) (fun _ => ?_) (fun _ => ?_) | refine Ae (hst) ?_ | refine qQb ?_ | fail)
  exact ⟨Or.inr rfl, _, rfl, rfl⟩
 rw [if_neg (fun h => h.elim h0 h1)]
 obtain ⟨c, hc⟩ : ∃ c : Nat, (c : Int) = cut := ⟨cut.toNat, by omega⟩
 subst hc
 have hcl : c ≤ ios.length := by omega
 rw [Bd]
 have hne : BL l ≠ [] := by
  intro h
  have : l.length = 0 := by have := Bo List.length h; simpa using this
  unfold devB at hd; omega
 have hcn := Aeg (k - 1) (by omega) t f (BL l) hne (Lz l) (fun H => Aim true 5 H l) (by simpa using hl)
 have hbl : (BL l).length = l.length := by simp
 have hsl : ((ios.map IoV.av).drop 0).take (c - 0) = (ios.take c).map IoV.av := by rw [Cb, tT, Ja]
 have htl : (ios.take c).length = c := by rw [Bc]; omega
 have hsll : (((ios.map IoV.av).drop 0).take (c - 0)).length = c := by rw [hsl, Ah, htl]
 have hfl := Bed (k - 1) (by omega) t' (f' && decide (c = ios.length)) 3 (ios.take c) (.inl rfl) (by omega)
 obtain ⟨F, hF⟩ : ∃ F, F = Zs (ios.take c) := ⟨_, rfl⟩
 have hFl : F.length ≤ c := by rw [hF]; exact Ic (rA _) (by omega)
 rw [← hF] at hfl
 have hfn : (NL F).length = F.length := Bm F
 have hfz : ∀ H : Heap, fz false 6 H (.islc t' (f' && decide (c = ios.length)) 3 (((ios.map IoV.av).drop 0).take (c - 0))) = .islc t' (f' && decide (c = ios.length)) 3 ((ios.take c).map IoV.av) := fun H => by rw [hsl]; rfl
 unfold pE Bap
 rw [← hF]
 have hloop : ∀ (sf : Int) (T : Tmps) (H : Heap), (∀ i : Nat, (i : Int) < sf ↔ i < F.getD (F.length - 1) 0) → H 0 = ⟨1, false, .row 1 (BL l)⟩ → Has T [(3, .islc t3 f3 s3 (keep.map AV.bool)), (11, .int .i64 sf), (13, .slc 0 1 l.length 1 0 l.length none), (14, .int .i64 0), (51, .islc t' (f' && decide (c = ios.length)) 3 ((ios.take c).map IoV.av)), (52, .int .i64 c), (53, .int .i64 0)] →
   W (Br (CF (k - 1)) noX 0 (k - 1) (.loop Bam) T H) (fun ex T' H' => ex = .exit 1 ∧ H' 0 = ⟨1, false, .row 1 (BL (Ayb (F.getD (F.length - 1) 0) keep (ios.take c) 0 0 l))⟩ ∧ T' 13 = .slc 0 1 l.length 1 0 l.length none) := by
  intro sf T H hsf hH hT
  refine Bjb (k := k - 1) (l := l) (ios := ios.take c) (keep := keep) (safe := F.getD (F.length - 1) 0) (sf := sf) (t' := t') (f' := f' && decide (c = ios.length)) (t3 := t3) (f3 := f3) (s' := 3) (s3 := s3) (v := l.length) (by omega) rfl hl (by omega) (.inl rfl) (fun x hx => ⟨hok x (Bs hx), hio x (Bs hx)⟩) hs3 hkl hsf hH ?_
  rw [htl]; exact hT
 have hfin : ∀ H2 : Heap, H2 0 = ⟨1, false, .row 1 (BL (Ayb (F.getD (F.length - 1) 0) keep (ios.take c) 0 0 l))⟩ → AV.tup [fz true (3 + 2) H2 (.slc 0 1 l.length 1 0 l.length none), .int .i64 0] = .tup [.islc false false 1 (BL (Ayb (F.getD (F.length - 1) 0) keep (ios.take c) 0 0 l)), .int .i64 0] := by
  intro H2 g0
  have hal : (Ayb (F.getD (F.length - 1) 0) keep (ios.take c) 0 0 l).length = l.length := by
   rw [Azk]
   exact Of _ _ fun x hx => fA (hok x (Bs (Ayi _ _ _ x hx).1))
  rw [zR (Fv g0 (by simpa using hal)) (by omega), Cb, Ai (by omega)]; rfl
 have hs3' : ((ios.map IoV.av).length) = ios.length := hml
 by_cases hs0 : s' = 3
 rotate_left 1
 ·
  have hi0 : ios = [] := hs.resolve_left hs0
  subst hi0
  obtain rfl : c = 0 := by simpa using hcl
  obtain rfl : F = [] := by rw [hF]; rfl
  repeat' (first
   | refine qS ?_ | refine qN ?_ | refine Bh (n := 0) rfl rfl rfl rfl ?_
   | refine Cr (n := 0) (a := 0) (b := 0) rfl (.inr rfl) rfl rfl (Ev rfl) (by omega) (by omega) rfl rfl ?_ | refine Ae hfl ?_ | refine Wd hcn hbl rfl rfl rfl ?_
   | refine Al (hst) (fun _ => ?_) (fun _ => ?_) | refine Ae (hst) ?_ | refine qQb ?_ | fail)
  refine W.mono (hloop (-1) _ _ (fun i => by simp) rfl ⟨rfl, rfl, rfl, rfl, rfl, rfl, rfl, trivial⟩) ?_
  rintro ex T2 H2 ⟨rfl, g0, h13⟩
  rw [Has.eq (T := T2) (ps := [(13, _)]) ⟨h13, trivial⟩]
  simp only [over]
  show W _ _
  repeat' (first | refine qS ?_ | refine qN ?_ | refine qQb ?_ | refine Ac (fun _ => ?_) (fun _ => ?_))
  exact ⟨Or.inr rfl, .tup [.slc 0 1 l.length 1 0 l.length none, .int .i64 0], rfl, hfin H2 g0⟩
 subst hs0
 by_cases hF0 : F = []
 ·subst hF0
  repeat' (first
   | refine qS ?_ | refine qN ?_ | refine Bh (n := ios.length) rfl hml rfl rfl ?_
   | refine Cr (n := ios.length) (a := 0) (b := c) rfl (.inl rfl) hml rfl (Ev rfl) (by omega) hcl rfl rfl ?_ | refine Ae hfl ?_ rfl (by exact Bo (fun z => [z]) (hfz _))
   | refine Bh (n := 0) rfl rfl rfl rfl ?_ | refine Bh (n := c) rfl hsll rfl rfl ?_ | refine Wd hcn hbl rfl rfl rfl ?_ | refine Al (hst) (fun _ => ?_) (fun _ => ?_)
   | refine Ae (hst) ?_ | refine qQb ?_ | fail)
  refine W.mono (hloop (-1) _ _ (fun i => by simp) rfl ⟨rfl, rfl, rfl, rfl, Bo (AV.islc _ _ _) hsl, rfl, rfl, trivial⟩) ?_
  rintro ex T2 H2 ⟨rfl, g0, h13⟩
  rw [Has.eq (T := T2) (ps := [(13, _)]) ⟨h13, trivial⟩]
  simp only [over]
  show W _ _
  repeat' (first | refine qS ?_ | refine qN ?_ | refine qQb ?_ | refine Ac (fun _ => ?_) (fun _ => ?_))
  exact ⟨Or.inr rfl, .tup [.slc 0 1 l.length 1 0 l.length none, .int .i64 0], rfl, hfin H2 g0⟩
 ·have hFp : 0 < F.length := Gf.2 hF0
  have hFp' : (F.length : Int) > 0 := by omega
  have hidx : (NL F)[((F.length : Int) - 1).toNat]? = some (.int .i64 (F.getD (F.length - 1) 0 : Nat)) := by
   rw [show ((F.length : Int) - 1).toNat = F.length - 1 by omega]
   unfold NL
   rw [Bp, Aa (by omega), Af, Aa (by omega)]; rfl
  repeat' (first
   | refine qS ?_ | refine qN ?_ | refine Bh (n := ios.length) rfl hml rfl rfl ?_
   | refine Cr (n := ios.length) (a := 0) (b := c) rfl (.inl rfl) hml rfl (Ev rfl) (by omega) hcl rfl rfl ?_ | refine Ae hfl ?_ rfl (by exact Bo (fun z => [z]) (hfz _))
   | refine Bh (n := F.length) rfl hfn rfl rfl ?_ | refine Bh (n := c) rfl hsll rfl rfl ?_ | refine Da rfl rfl (by omega) hidx rfl rfl ?_
   | refine Wd hcn hbl rfl rfl rfl ?_ | refine Al (hst) (fun _ => ?_) (fun _ => ?_) | refine Ae (hst) ?_ | refine qQba ?_ | fail)
  refine W.mono (hloop (F.getD (F.length - 1) 0 : Nat) _ _ (fun i => by omega) rfl ⟨rfl, rfl, rfl, rfl, Bo (AV.islc _ _ _) hsl, rfl, rfl, trivial⟩) ?_
  rintro ex T2 H2 ⟨rfl, g0, h13⟩
  rw [Has.eq (T := T2) (ps := [(13, _)]) ⟨h13, trivial⟩]
  simp only [over]
  show W _ _
  repeat' (first | refine qS ?_ | refine qN ?_ | refine qQb ?_ | refine Ac (fun _ => ?_) (fun _ => ?_))
  exact ⟨Or.inr rfl, .tup [.slc 0 1 l.length 1 0 l.length none, .int .i64 0], rfl, hfin H2 g0⟩
def Ayq : List UInt8 → List IoV → List Nat → Nat → Nat → List ViewV → Except Nat (List ViewV)
 | _, _, [], _, _, acc => .ok acc
 | img, ios, a :: r, i, frm, acc => if i % 2 ≠ 1 then Ayq img ios r (i + 1) frm acc else
  match pB (Bt img ((ios.drop frm).take (a + 1 - frm))) with
  | .error (_, e) => .error e
  | .ok x => Ayq (Bt img ((ios.drop frm).take (a + 1 - frm))) ios r (i + 1) (a + 1) (acc ++ [Gq (Bt img ((ios.drop frm).take (a + 1 - frm))) x])
def Bal (l : List UInt8) (ios : List IoV) : Except Nat (List ViewV) := if Lc l ios ≠ 0 then .error (Lc l ios) else
 match pB l with
 | .error (_, e) => .error e
 | .ok x => Ayq l ios (Zs ios) 0 0 [Gq l x]
def stAv : Except Nat (List ViewV) → AV
 | .ok vs => .tup [.islc false false 3 (vs.map ViewV.av), .int .i64 0]
 | .error e => .tup [.islc false false 3 [], .int .i64 e]
def Bet (l : List UInt8) (ios : List IoV) (cut : Int) (keep : List Bool) : AV :=
 if Lc l ios ≠ 0 then .tup [.agg [.islc false true 0 [], .islc false true 0 [], .islc false true 0 []], .int .i64 (Lc l ios)] else if cut < 0 ∨ (ios.length : Int) < cut then .tup [.agg [.islc false true 0 [], .islc false true 0 [], .islc false true 0 []], .int .i64 1]
 else Ajv (pE l ios cut.toNat keep) (pB (pE l ios cut.toNat keep))
theorem Bka (l : List UInt8) : ∃ (f1 f2 f3 : Bool) (s1 s2 s3 : Nat) (e1 e2 e3 : List AV) (e : Nat), Ajv l (pB l) = .tup [.agg [.islc false f1 s1 e1, .islc false f2 s2 e2, .islc false f3 s3 e3], .int .i64 e] := by
 cases pB l with
 | error p => obtain ⟨a, e⟩ := p; exact ⟨_, _, _, _, _, _, _, _, _, e, rfl⟩
 | ok x =>
  obtain ⟨f2, s2, h2, _⟩ := Wo (Gq l x).snaps
  obtain ⟨f3, s3, h3, _⟩ := Wo (Gq l x).opens
  refine ⟨false, f2, f3, 1, s2, s3, (Gq l x).head.map Hq, (Gq l x).snaps.map SnapV.av, (Gq l x).opens.map SnapV.av, 0, ?_⟩
  unfold Ajv ViewV.cs
  simp only
  rw [h2, h3]
  rfl
theorem Bgu (k : Nat) (hk : 1000300 ≤ k) (t f : Bool) (l : List UInt8) (hl : l.length < 1000000) (t' f' : Bool) (s' : Nat) (ios : List IoV) (hs : s' = 3 ∨ ios = []) (hil : ios.length < 100000) (hio : ∀ x ∈ ios, x.s = 1 ∨ x.data = []) (cut : Int) (t3 f3 : Bool) (s3 : Nat) (keep : List Bool) (hs3 : s3 = 1 ∨ keep = []) (hkl : keep.length < 100000) :
  FnV (CF k) Ayx [.islc t f 1 (BL l), .islc t' f' s' (ios.map IoV.av), .int .i64 cut, .islc t3 f3 s3 (keep.map AV.bool)] (Bet l ios cut keep) := by
 have hcr := Blm (k - 1) (by omega) t f l hl t' f' s' ios hs hil hio cut t3 f3 s3 keep hs3 hkl
 refine fnk (by omega) Bci rfl ?_
 unfold Azo
 unfold Bgz at hcr
 unfold Bet
 by_cases he : Lc l ios = 0
 rotate_left 1
 ·rw [if_pos he] at hcr ⊢
  have he' : (Lc l ios : Int) ≠ 0 := by omega
  repeat' (first | refine Al (hcr) (fun _ => ?_) (fun _ => ?_) | refine Ae (hcr) ?_ | refine qQb ?_ | refine Ac (fun _ => ?_) (fun _ => ?_))
  exact ⟨Or.inr rfl, _, rfl, rfl⟩
 rw [if_neg (fun h => h he)] at hcr ⊢
 by_cases h0 : cut < 0 ∨ (ios.length : Int) < cut
 ·rw [if_pos h0] at hcr ⊢
  repeat' (first | refine Al (hcr) (fun _ => ?_) (fun _ => ?_) | refine Ae (hcr) ?_ | refine qQb ?_ | refine Ac (fun _ => ?_) (fun _ => ?_))
  exact ⟨Or.inr rfl, _, rfl, rfl⟩
 rw [if_neg h0] at hcr ⊢
 have hcl : (pE l ios cut.toNat keep).length < 1000000 := by
  rw [Bcq fun x hx => fA ((wJ he).2 x hx)]; exact hl
 have hv := vV (k - 1) (by omega) false (pE l ios cut.toNat keep) hcl
 obtain ⟨f1, f2, f3, s1, s2, s3, e1, e2, e3, e, hvq⟩ := Bka (pE l ios cut.toNat keep)
 rw [hvq] at hv ⊢
 repeat' (first | refine qS ?_ | refine Ae hv ?_ | refine Al (hcr) (fun _ => ?_) (fun _ => ?_) | refine Ae (hcr) ?_ | refine qQb ?_ | refine Ac (fun _ => ?_) (fun _ => ?_))
 exact ⟨Or.inr rfl, _, rfl, rfl⟩
theorem Bic {k : Nat} {l : List UInt8} {ios : List IoV} {t' f' : Bool} {v0 : ViewV} {T : Tmps} {H : Heap} {f0 : Bool} (hk : 1000300 ≤ k) (hl : l.length < 1000000) (hil : ios.length < 100000) (hok : ∀ x ∈ ios, Oz (nb l) x ∧ (x.s = 1 ∨ x.data = [])) (hdv : devB l.length)
  {c1 c2 c3 : AV} (h2 : H 2 = ⟨1, false, .row 3 [.agg [c1, c2, c3]]⟩) (h4 : H 4 = ⟨1, false, .row 3 [v0.av]⟩)
  (hT : Has T [(0, .islc false f0 1 (BL l)), (1, .islc t' f' 3 (ios.map IoV.av)), (7, .ptr 2 1 1 3 0 0), (8, .slc 4 1 1 3 0 1 none), (9, .int .i64 0), (29, .islc false false 1 (NL (Zs ios))), (30, .int .i64 (Zs ios).length), (31, .int .i64 0)]) :
  W (Br (CF k) noX 0 k (.loop Baq) T H) (fun ex T' H' => (ex = .exit 0 ∧ ∃ vs, Ayq l ios (Zs ios) 0 0 [v0] = .ok vs ∧ H' 4 = ⟨1, false, .row 3 (vs.map ViewV.av)⟩ ∧ T' 8 = .slc 4 1 vs.length 3 0 vs.length none) ∨
   (ex = .ret ∧ ∃ e g : Nat, Ayq l ios (Zs ios) 0 0 [v0] = .error e ∧ T' 4 = .slc 5 g 0 3 0 0 none ∧ T' 5 = .int .i64 e ∧ H' 5 = ⟨g, false, .row 3 []⟩)) := by
 generalize hG : Ayq l ios (Zs ios) 0 0 [v0] = tot
 have hrg := Azh ios 0
 obtain ⟨F, hF⟩ : ∃ F, F = Zs ios := ⟨_, rfl⟩
 rw [← hF] at hG hT
 have hFr : (∀ a ∈ F, a < ios.length) ∧ F.Pairwise (· < ·) := by
  rw [hF]; exact ⟨fun a ha => by have := (hrg.1 a ha).2; omega, hrg.2⟩
 have hFl : F.length ≤ ios.length := by rw [hF]; exact rA ios
 clear hrg
 refine Fj F.length (fun i T' H' => ∃ (img : List UInt8) (f0 : Bool) (frm : Nat) (acc : List ViewV) (c1 c2 c3 : AV), tot = Ayq img ios (F.drop i) i frm acc ∧ img.length = l.length ∧ (∀ a ∈ F.drop i, frm ≤ a) ∧ frm ≤ ios.length ∧ acc.length ≤ i + 1 ∧
   H' 2 = ⟨1, false, .row 3 [.agg [c1, c2, c3]]⟩ ∧ H' 4 = ⟨1, false, .row 3 (acc.map ViewV.av)⟩ ∧
   Has T' [(0, .islc false f0 1 (BL img)), (1, .islc t' f' 3 (ios.map IoV.av)), (7, .ptr 2 1 1 3 0 0), (8, .slc 4 1 acc.length 3 0 acc.length none), (9, .int .i64 frm), (29, .islc false false 1 (NL F)), (30, .int .i64 F.length), (31, .int .i64 (i : Nat))])
  ⟨l, f0, 0, [v0], c1, c2, c3, hG.symm, rfl, fun a _ => Ep a, Ep _, by simp, h2, h4, hT⟩ (by omega) ?_
 rintro i T H hi ⟨img, f0, frm, acc, c1, c2, c3, hgo, him, hfr, hfl, hal, g2, g4, hT⟩
 rw [hT.eq]
 simp only [over]
 unfold Baq
 by_cases hlt : i < F.length
 ·rw [Cm hlt] at hgo hfr
  obtain ⟨a, ha⟩ : ∃ a, a = F[i] := ⟨_, rfl⟩
  rw [← ha] at hgo hfr
  have hal2 : a < ios.length := by rw [ha]; exact hFr.1 _ (Bw hlt)
  have hnx : ∀ b ∈ F.drop (i + 1), a < b := by
   have hp := hFr.2
   rw [← Hv i F, List.pairwise_append, Cm hlt, ← ha, List.pairwise_cons] at hp
   exact hp.2.1.1
  have hfa := hfr a (by simp)
  have he2 : (NL F)[(i : Int).toNat]? = some (.int .i64 (a : Nat)) := by
   rw [Bd]; unfold NL; rw [Bp, Aa hlt, ← ha]; rfl
  simp only [Ayq] at hgo
  by_cases hodd : i % 2 = 1
  rotate_left 1
  ·rw [if_pos hodd] at hgo
   have hodd' : (i : Int) % 2 ≠ 1 := by omega
   repeat' (first | refine qS ?_ | refine Da rfl rfl (by omega) he2 rfl rfl ?_ | refine qQa ?_ | refine Bl fun _ => ?_)
   exact ⟨hlt, img, f0, frm, acc, c1, c2, c3, hgo, him, fun b hb => hfr b (by simp [hb]), hfl, by omega, g2, g4, rfl, rfl, rfl, rfl, rfl, rfl, rfl, by show AV.int _ _ = AV.int _ _; congr 1, trivial⟩
  rw [if_neg (fun h => h hodd)] at hgo
  have hodd' : (i : Int) % 2 = 1 := by omega
  have hml : (ios.map IoV.av).length = ios.length := Ah _
  obtain ⟨sub, hsub⟩ : ∃ s, s = (ios.drop frm).take (a + 1 - frm) := ⟨_, rfl⟩
  have hsm : ∀ x ∈ sub, x ∈ ios := fun x hx => by rw [hsub] at hx; exact Cu (Bs hx)
  have hsl : ((ios.map IoV.av).drop frm).take (a + 1 - frm) = sub.map IoV.av := by rw [hsub, Ja, Fb]
  have hsle : sub.length ≤ ios.length := by rw [hsub, Bc, Ba]; omega
  rw [← hsub] at hgo
  have hnb : nb img = nb l := by unfold nb; rw [him]
  have hst0 : Lc img sub = 0 := by
   unfold Lc
   rw [if_neg (fun h => h (by rw [him]; exact hdv)), if_neg]
   intro h
   obtain ⟨x, hx, hxe⟩ := Fm.1 h
   rw [hnb, As (hok x (hsm x hx)).1] at hxe
   cases hxe
  have hap := iD k (by omega) false f0 img (by rw [him]; exact hl) t' (f' && decide (a + 1 = ios.length)) 3 sub (.inl rfl) (by omega) (fun x hx => (hok x (hsm x hx)).2)
  unfold Xv at hap
  rw [if_neg (fun h => h hst0)] at hap
  have hal3 : (Bt img sub).length = l.length := by
   rw [Of _ _ (fun x hx => by rw [hnb]; exact fA (hok x (hsm x hx)).1)]; exact him
  have hvw := vV k (by omega) false (Bt img sub) (by rw [hal3]; exact hl)
  have e1 : (a : Int) + 1 = ((a + 1 : Nat) : Int) := by omega
  have hfz : ∀ (z : AV) (H : Heap), fz false 6 H z = z → [z, AV.islc t' (f' && decide (a + 1 = ios.length)) 3 (((ios.map IoV.av).drop frm).take (a + 1 - frm))].map (fz false 6 H) = [z, .islc t' (f' && decide (a + 1 = ios.length)) 3 (sub.map IoV.av)] := by
   intro z H hz
   rw [hsl]
   show [fz false 6 H z, _] = _
   rw [hz]; rfl
  generalize Bt img sub = img2 at *
  cases hq : pB img2 with
  | error p =>
   obtain ⟨b, e⟩ := p
   have hee := Nb hq
   rw [hq] at hvw hgo
   unfold Ajv at hvw
   simp only at hvw hgo
   have he0 : (e : Int) ≠ 0 := by omega
   repeat' (first
    | refine qS ?_ | refine Da rfl rfl (by omega) he2 rfl rfl ?_ | (rw [e1])
    | refine Cr (n := ios.length) (a := frm) (b := a + 1) rfl (.inl rfl) hml (Ev rfl) (Ev rfl) (by omega) (by omega) rfl rfl ?_
    | refine Ae hap ?_ rfl (by exact hfz _ _ rfl) | refine Ae hvw ?_ | refine Co ?_ (hr := by exact g2) | refine qQa ?_ | refine Bl fun _ => ?_)
   exact .inr ⟨rfl, e, _, hgo, rfl, rfl, rfl⟩
  | ok x =>
   rw [hq] at hvw hgo
   unfold Ajv at hvw
   simp only at hvw hgo
   obtain ⟨fS, sS, eS, hS⟩ := Wo (Gq img2 x).snaps
   obtain ⟨fO, sO, eO, hO⟩ := Wo (Gq img2 x).opens
   obtain ⟨w, hw⟩ : ∃ w, w = Gq img2 x := ⟨_, rfl⟩
   rw [← hw] at hgo hvw eS eO
   have hvw' : FnV (CF k) vF [.islc false false 1 (BL img2)] (.tup [.agg [.islc false false 1 (w.head.map Hq), .islc false fS sS (w.snaps.map SnapV.av), .islc false fO sO (w.opens.map SnapV.av)], .int .i64 0]) := by
    rw [← eS, ← eO]; exact hvw
   have hwa : w.av = .agg [.islc false false 1 (w.head.map Hq), .islc false fS sS (w.snaps.map SnapV.av), .islc false fO sO (w.opens.map SnapV.av)] := by
    rw [← eS, ← eO]; rfl
   have ham : (acc.map ViewV.av).length = acc.length := Ah _
   repeat' (first
    | refine qS ?_ | refine Da rfl rfl (by omega) he2 rfl rfl ?_ | (rw [e1])
    | refine Cr (n := ios.length) (a := frm) (b := a + 1) rfl (.inl rfl) hml (Ev rfl) (Ev rfl) (by omega) (by omega) rfl rfl ?_
    | refine Ae hap ?_ rfl (by exact hfz _ _ rfl) | refine Ae hvw' ?_ | refine Co ?_ (hr := by exact g2) | refine Be ?_ (hr := by rfl)
    | refine Lm (e := .agg [.islc false false 1 (w.head.map Hq), .islc false fS sS (w.snaps.map SnapV.av), .islc false fO sO (w.opens.map SnapV.av)]) rfl rfl rfl (by exact g4) ham rfl (by omega) rfl rfl (fun _ => ?_)
    | refine qQa ?_ | refine Bl fun _ => ?_)
   refine ⟨hlt, img2, false, a + 1, acc ++ [w], _, _, _, hgo, hal3, fun b hb => hnx b hb, by omega, by simp; omega, rfl, ?_, rfl, rfl, rfl, ?_, by show AV.int _ _ = AV.int _ _; congr 1, rfl, rfl, by show AV.int _ _ = AV.int _ _; congr 1, trivial⟩
   ·rw [Bq, Aw, Jz, hwa]; rfl
   ·rw [An]; rfl
 ·have hin : i = F.length := by omega
  subst hin
  rw [Lh] at hgo
  simp only [Ayq] at hgo
  repeat' (first | refine qQ ?_ | refine Ac (fun _ => ?_) (fun _ => ?_) | refine Bl fun _ => ?_)
  exact .inl ⟨rfl, acc, hgo, g4, rfl⟩
theorem Bdg {H : Heap} {j g : Nat} {vs : List ViewV} (h : H j = ⟨g, false, .row 3 (vs.map ViewV.av)⟩) (n : Nat) : fz true (n + 3) H (.slc j g vs.length 3 0 vs.length none) = .islc false false 3 (vs.map ViewV.av) := by
 have e : (vs.map ViewV.av).map (fz true (n + 2) H) = vs.map ViewV.av := by
  rw [Ha]
  refine Bk fun v _ => ?_
  show AV.agg [_, fz true (n + 1) H (bS v.snaps), fz true (n + 1) H (bS v.opens)] = AV.agg [_, _, _]
  obtain ⟨f2, s2, h2, _⟩ := Wo v.snaps
  obtain ⟨f3, s3, h3, _⟩ := Wo v.opens
  rw [h2, h3]; rfl
 show fz true (n + 2 + 1) H _ = _
 rw [Tf (Fv h (by simp)) (by omega), Cb, Ai (by simp), e]
 rfl
theorem Bhz (k : Nat) (hk : 1000400 ≤ k) (f : Bool) (l : List UInt8) (hl : l.length < 1000000) (t' f' : Bool) (ios : List IoV) (hil : ios.length < 100000) (hio : ∀ x ∈ ios, x.s = 1 ∨ x.data = []) :
  FnV (CF k) Ayt [.islc false f 1 (BL l), .islc t' f' 3 (ios.map IoV.av)] (stAv (Bal l ios)) := by
 have hst := Abz (k - 1) (by omega) false f l hl t' f' 3 ios (.inl rfl) hil
 refine fnk (by omega) Baz rfl ?_
 unfold crash_States Bal
 by_cases he : Lc l ios = 0
 rotate_left 1
 ·rw [if_pos he]
  have he' : (Lc l ios : Int) ≠ 0 := by omega
  repeat' (first | refine Al (hst) (fun _ => ?_) (fun _ => ?_) | refine Ae (hst) ?_ | refine qQ ?_ | refine Ac (fun _ => ?_) (fun _ => ?_) | refine Bl fun _ => ?_)
  refine ⟨Or.inr rfl, .tup [.slc 1 1 0 3 0 0 none, .int .i64 (Lc l ios)], rfl, ?_⟩
  exact Bo (fun z => AV.tup [z, .int .i64 (Lc l ios)]) (Bdg (vs := []) (by rfl) 2)
 rw [if_neg (fun h => h he)]
 obtain ⟨hd, hok⟩ := wJ he
 rw [he] at hst
 have hvw := vV (k - 1) (by omega) f l hl
 have hfl := Bed (k - 1) (by omega) t' f' 3 ios (.inl rfl) hil
 cases hq : pB l with
 | error p =>
  obtain ⟨b, e⟩ := p
  have hee := Nb hq
  rw [hq] at hvw
  unfold Ajv at hvw
  simp only at hvw ⊢
  have he0 : (e : Int) ≠ 0 := by omega
  repeat' (first | refine qS ?_ | refine Ae hvw ?_ | refine Al (hst) (fun _ => ?_) (fun _ => ?_) | refine Ae (hst) ?_ | refine qQ ?_ | refine Bl fun _ => ?_)
  refine ⟨Or.inr rfl, .tup [.slc 3 1 0 3 0 0 none, .int .i64 e], rfl, ?_⟩
  exact Bo (fun z => AV.tup [z, .int .i64 e]) (Bdg (vs := []) (by rfl) 2)
 | ok x =>
  rw [hq] at hvw
  unfold Ajv at hvw
  simp only at hvw ⊢
  obtain ⟨fS, sS, eS, hS⟩ := Wo (Gq l x).snaps
  obtain ⟨fO, sO, eO, hO⟩ := Wo (Gq l x).opens
  obtain ⟨w, hw⟩ : ∃ w, w = Gq l x := ⟨_, rfl⟩
  rw [← hw] at hvw eS eO ⊢
  have hvw' : FnV (CF (k - 1)) vF [.islc false f 1 (BL l)] (.tup [.agg [.islc false false 1 (w.head.map Hq), .islc false fS sS (w.snaps.map SnapV.av), .islc false fO sO (w.opens.map SnapV.av)], .int .i64 0]) := by
   rw [← eS, ← eO]; exact hvw
  have hwa : w.av = .agg [.islc false false 1 (w.head.map Hq), .islc false fS sS (w.snaps.map SnapV.av), .islc false fO sO (w.opens.map SnapV.av)] := by
   rw [← eS, ← eO]; rfl
  have hfn : (NL (Zs ios)).length = (Zs ios).length := Bm _
  repeat' (first
   | refine qS ?_ | refine Ae hvw' ?_ | refine Ae hfl ?_ | refine Iw ?_ (hl := by kernel_rfl) | refine Bh (n := (Zs ios).length) rfl hfn rfl rfl ?_
   | refine Al (hst) (fun _ => ?_) (fun _ => ?_) | refine Ae (hst) ?_ | refine qQ ?_ | refine Bl fun _ => ?_)
  refine W.mono (Bic (k := k - 1) (l := l) (ios := ios) (t' := t') (f' := f') (v0 := w) (f0 := f) (c1 := .islc false false 1 (w.head.map Hq)) (c2 := .islc false fS sS (w.snaps.map SnapV.av)) (c3 := .islc false fO sO (w.opens.map SnapV.av)) (by omega) hl hil (fun x hx => ⟨hok x hx, hio x hx⟩) hd ?_ ?_ ?_) ?_
  ·rfl
  ·rw [hwa]; rfl
  ·exact ⟨rfl, rfl, rfl, rfl, rfl, rfl, rfl, rfl, trivial⟩
  rintro ex T2 H2 (⟨rfl, vs, hvs, g4, h8⟩ | ⟨rfl, e, g, hvs, h4, h5, g5⟩)
  ·rw [hvs, Has.eq (T := T2) (ps := [(8, _)]) ⟨h8, trivial⟩]
   simp only [over]
   show W _ _
   repeat' (first | refine qQ ?_ | refine Ac (fun _ => ?_) (fun _ => ?_) | refine Bl fun _ => ?_)
   refine ⟨Or.inr rfl, .tup [.slc 4 1 vs.length 3 0 vs.length none, .int .i64 0], rfl, ?_⟩
   exact Bo (fun z => AV.tup [z, .int .i64 0]) (Bdg g4 2)
  ·rw [hvs]
   refine ⟨Or.inr rfl, .tup [.slc 5 g 0 3 0 0 none, .int .i64 e], ?_, ?_⟩
   ·show Ia T2 H2 [.tmp 4, .tmp 5] = _
    simp only [Ia, ares, Rb, Afc, h4, h5]; rfl
   ·exact Bo (fun z => AV.tup [z, .int .i64 e]) (Bdg (vs := []) g5 2)
theorem Bjm (k : Nat) (hk : 1000010 ≤ k) (t f : Bool) (s : Nat) (ios : List IoV) (hs : s = 3 ∨ ios = []) (hil : ios.length < 100000) : FnV (CF k) Ayz [.islc t f s (ios.map IoV.av)] (.int .i64 ((Zs ios).length / 2 : Nat)) := by
 have hfl := Bed (k - 1) (by omega) t f s ios hs hil
 have hfn : (NL (Zs ios)).length = (Zs ios).length := Bm _
 have hb := rA ios
 generalize Zs ios = F at *
 refine fnk (by omega) Bav rfl ?_
 unfold Ayy
 repeat' (first | refine qS ?_ | refine Ae hfl ?_ | refine Bh (n := F.length) rfl hfn rfl rfl ?_ | refine qQ ?_ | fail)
 refine ⟨Or.inr rfl, _, rfl, ?_⟩
 show AV.int _ _ = AV.int _ _
 congr 1
end Go.Proofs.YtkaiiopoilpjeaaGreat
set_option maxRecDepth 10000
namespace Go.Proofs.YtkaiiopoilpjeaaGreat
open Go.AI
section
variable {s : Sup} {slot : Nat} {ios : List IoV} {root size first : Nat}
end
structure Opd (l : List UInt8) (ios : List IoV) (x x' : Img) : Prop where
 dev : Dev l
 img : IsImg l x
 img' : IsImg (Bt l ios) x'
 len : (Bt l ios).length = l.length
 right : Lc l ios = 0
 steps : ∃ (io0 : List IoV) (root size first : Nat), ios = Ft x.sup x.slot io0 root size first ∧ Frees l x io0
end Go.Proofs.YtkaiiopoilpjeaaGreat
set_option maxRecDepth 10000
set_option maxHeartbeats 16000000
namespace Go.Proofs.YtkaiiopoilpjeaaGreat
open Go.AI
theorem Afl (w : ViewV) : ∃ (f2 f3 : Bool) (s2 s3 : Nat), w.av = .agg [.islc false false 1 (w.head.map Hq), .islc false f2 s2 (w.snaps.map SnapV.av), .islc false f3 s3 (w.opens.map SnapV.av)] := by
 obtain ⟨f2, s2, h2, _⟩ := Wo w.snaps
 obtain ⟨f3, s3, h3, _⟩ := Wo w.opens
 exact ⟨f2, f3, s2, s3, by unfold ViewV.av ViewV.cs Vj; rw [h2, h3]⟩
attribute [local irreducible] aops Br Cp Dp aop W WO
def wk27 : Bool :=
 (match pB (pE wk0 wkA 4 []) with | .ok x => Nat.beq (Gq (pE wk0 wkA 4 []) x).snaps.length 1 | .error _ => false) &&
 (match pB (pE wk0 wkA 3 []) with | .ok x => Nat.beq (Gq (pE wk0 wkA 3 []) x).snaps.length 0 | .error _ => false) &&
 (match Bal wk0 wkA with | .ok [_, b] => Nat.beq b.snaps.length 1 | _ => false) && Nat.beq ((Zs wkA).length / 2) 1
theorem Bju : wk27 = true := by kernel_rfl
theorem Bjp (k : Nat) (hk : 1000500 ≤ k) : FnV (CF k) Bbx [] (.bool true) := by
 have h := Ald
 have h27 := Bju
 unfold wk27 at h27
 unfold wkOk at h
 simp only [Cl] at h h27
 obtain ⟨⟨⟨⟨⟨⟨h1, h2⟩, h3⟩, _⟩, _⟩, _⟩, _⟩ := h
 obtain ⟨⟨⟨d1, d2⟩, d3⟩, d4⟩ := h27
 have hl0 : wk0.length < 1000000 := by
  show (newP 16).length < _
  unfold newP
  rw [An, Nx]; simp
 have c1 : Jy wk0 5 = .ok wkA := by
  unfold wkA
  cases hc : Jy wk0 5 with
  | ok a => rfl
  | error e => rw [hc] at h1; cases h1
 have c2 : wkA.length = 4 := Fi h2
 have c3 : Lc wk0 wkA = 0 := Fi h3
 have ha := rW hl0 c1
 obtain ⟨w1, e1, f1⟩ : ∃ w : ViewV, Ajv (pE wk0 wkA 4 []) (pB (pE wk0 wkA 4 [])) = .tup [w.av, .int .i64 0] ∧ w.snaps.length = 1 := by
  cases hc : pB (pE wk0 wkA 4 []) with
  | error e => rw [hc] at d1; cases d1
  | ok x => rw [hc] at d1; exact ⟨_, rfl, Fi d1⟩
 obtain ⟨w2, e2, f2⟩ : ∃ w : ViewV, Ajv (pE wk0 wkA 3 []) (pB (pE wk0 wkA 3 [])) = .tup [w.av, .int .i64 0] ∧ w.snaps.length = 0 := by
  cases hc : pB (pE wk0 wkA 3 []) with
  | error e => rw [hc] at d2; cases d2
  | ok x => rw [hc] at d2; exact ⟨_, rfl, Fi d2⟩
 obtain ⟨w3, w4, e3, f3⟩ : ∃ w w' : ViewV, Bal wk0 wkA = .ok [w, w'] ∧ w'.snaps.length = 1 := by
  cases hc : Bal wk0 wkA with
  | error e => rw [hc] at d3; cases d3
  | ok vs =>
   rw [hc] at d3
   match vs, d3 with
   | [a, b], d3 => exact ⟨a, b, rfl, Fi d3⟩
 have f4 : (Zs wkA).length / 2 = 1 := Fi d4
 have hN : FnV (CF (k - 1)) Xg [.int .i64 16] (.tup [.islc false false 1 (BL wk0), .int .i64 0]) := Aux (k - 1) (by omega) 16 (by decide)
 have hC0 : FnV (CF (k - 1)) Rl [.islc false false 1 (BL wk0), .int .i64 5] (.tup [.islc false false 3 (wkA.map IoV.av), .int .i64 0]) := by
  have := sV (k - 1) (by omega) false wk0 hl0 5
  rwa [c1] at this
 have pA1 := Bgu (k - 1) (by omega) false false wk0 hl0 false false 3 wkA (.inl rfl) ha.1 (fun x hx => (ha.2 x hx).1) (4 : Nat) false true 0 [] (.inr rfl) (by decide)
 have pA2 := Bgu (k - 1) (by omega) false false wk0 hl0 false false 3 wkA (.inl rfl) ha.1 (fun x hx => (ha.2 x hx).1) (3 : Nat) false true 0 [] (.inr rfl) (by decide)
 have pS := Bhz (k - 1) (by omega) false wk0 hl0 false false wkA ha.1 (fun x hx => (ha.2 x hx).1)
 have pC := Bjm (k - 1) (by omega) false false 3 wkA (.inl rfl) ha.1
 rw [f4] at pC
 rw [e3] at pS
 unfold Bet at pA1 pA2
 rw [if_neg (fun h => h c3), if_neg (by rw [c2]; omega), Bd] at pA1 pA2
 rw [e1] at pA1
 rw [e2] at pA2
 unfold stAv at pS
 simp only at pS
 obtain ⟨p2, p3, q2, q3, hw1⟩ := Afl w1
 obtain ⟨r2, r3, s2, s3, hw2⟩ := Afl w2
 obtain ⟨t2, t3, u2, u3, hw4⟩ := Afl w4
 rw [hw1] at pA1
 rw [hw2] at pA2
 have hla : (wkA.map IoV.av).length = 4 := by simpa using c2
 have g1 : (w1.snaps.map SnapV.av).length = 1 := by simpa using f1
 have g2 : (w2.snaps.map SnapV.av).length = 0 := by simpa using f2
 have g4 : (w4.snaps.map SnapV.av).length = 1 := by simpa using f3
 have hel : ([w3, w4].map ViewV.av)[(1 : Int).toNat]? = some (.agg [.islc false false 1 (w4.head.map Hq), .islc false t2 u2 (w4.snaps.map SnapV.av), .islc false t3 u3 (w4.opens.map SnapV.av)]) := by
  rw [← hw4]; rfl
 generalize wkA = a at *
 generalize wk0 = l0 at *
 refine fnk (by omega) Bgg rfl ?_
 unfold Bbg
 repeat' (first
  | refine qS ?_ | refine qN ?_ | refine Ae hN ?_ | refine Ae hC0 ?_ | refine Ae pA1 ?_ | refine Ae pA2 ?_ | refine Ae pS ?_ | refine Ae pC ?_
  | refine Iw ?_ (hl := by kernel_rfl) | refine Bh (n := 4) rfl hla rfl rfl ?_ | refine Bh (n := 1) rfl g1 rfl rfl ?_ | refine Bh (n := 0) rfl g2 rfl rfl ?_
  | refine Bh (n := 1) rfl g4 rfl rfl ?_ | refine Bh (n := 2) rfl rfl rfl rfl ?_ | refine Da rfl rfl (by decide) hel rfl rfl ?_ | refine qQba ?_ | fail)
 exact ⟨Or.inr rfl, _, rfl, rfl⟩
end Go.Proofs.YtkaiiopoilpjeaaGreat
