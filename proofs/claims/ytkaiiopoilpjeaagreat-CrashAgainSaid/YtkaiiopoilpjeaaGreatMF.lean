/- Lemmas. -/
import Derived.Test.YtkaiiopoilpjeaaGreatMM
import Derived.Test.YtkaiiopoilpjeaaGreatMD1
import Derived.Test.YtkaiiopoilpjeaaGreatME2
import Derived.Test.YtkaiiopoilpjeaaGreatMN
import Derived.Test.YtkaiiopoilpjeaaGreatMD2
set_option linter.unusedSimpArgs false
set_option linter.unusedVariables false
set_option maxHeartbeats 16000000
set_option maxRecDepth 10000
namespace Go.Proofs.YtkaiiopoilpjeaaGreat
open Go.AI
def Kf : List IoV → Nat → List Nat
 | [], _ => []
 | x :: r, i => (if x.kind = 2 then [i] else []) ++ Kf r (i + 1)
def Bx (l : List IoV) : List Nat := Kf l 0
theorem Sw : ∀ (a b : List IoV) (i : Nat), Kf (a ++ b) i = Kf a i ++ Kf b (i + a.length)
 | [], b, i => by simp [Kf]
 | x :: a, b, i => by
  have h := Sw a b (i + 1)
  simp only [Hi, Kf, Ap, h, Cd]
  rw [show i + 1 + a.length = i + (a.length + 1) by omega]
theorem aV : ∀ (l : List IoV) (i : Nat), (∀ a ∈ Kf l i, i ≤ a ∧ a < i + l.length) ∧ (Kf l i).Pairwise (· < ·)
 | [], i => ⟨fun a h => (by cases h), List.Pairwise.nil⟩
 | x :: r, i => by
  obtain ⟨h1, h2⟩ := aV r (i + 1)
  unfold Kf
  refine ⟨fun a h => ?_, ?_⟩
  ·rcases Bq.1 h with h | h
   ·split at h
    ·rw [Bz] at h; subst h; simp
    ·cases h
   ·have := h1 a h; simp only [Ap]; omega
  ·split
   ·rw [List.singleton_append, List.pairwise_cons]
    exact ⟨fun a h => by have := h1 a h; omega, h2⟩
   ·exact h2
theorem Adv {l : List IoV} {i : Nat} (h : i < l.length) : Bx (l.take (i + 1)) = Bx (l.take i) ++ (if l[i].kind = 2 then [i] else []) := by
 unfold Bx
 rw [Ax h, Sw]
 congr 1
 have e : (l.take i).length = i := by rw [Ba]; omega
 rw [e, Ch]
 unfold Kf
 simp [Kf]
theorem Td (l : List IoV) : (Bx l).length ≤ l.length := by
 have h : ∀ (l : List IoV) (i : Nat), (Kf l i).length ≤ l.length := by
  intro l
  induction l with
  | nil => intro i; simp [Kf]
  | cons x r ih =>
   intro i
   unfold Kf
   have := ih (i + 1)
   rw [An, Ap]
   split <;> simp <;> omega
 exact h l 0
def eF (l : List IoV) : Nat := (Bx l).getD ((Bx l).length - 1) 0
def Hv (safe : Nat) (keep : List Bool) : List IoV → Nat → Nat → List IoV
 | [], _, _ => []
 | x :: r, i, o => if x.kind ≠ 1 then Hv safe keep r (i + 1) o else if i < safe then x :: Hv safe keep r (i + 1) o
  else if keep.getD o false = true then x :: Hv safe keep r (i + 1) (o + 1) else Hv safe keep r (i + 1) (o + 1)
def Hx (safe : Nat) (keep : List Bool) : List IoV → Nat → Nat → List UInt8 → List UInt8
 | [], _, _, m => m
 | x :: r, i, o, m => if x.kind ≠ 1 then Hx safe keep r (i + 1) o m else if i < safe then Hx safe keep r (i + 1) o (wr m x.at0 x.data)
  else if keep.getD o false = true then Hx safe keep r (i + 1) (o + 1) (wr m x.at0 x.data) else Hx safe keep r (i + 1) (o + 1) m
theorem Uv {safe : Nat} {keep : List Bool} : ∀ (l : List IoV) (i o : Nat) (m : List UInt8), Hx safe keep l i o m = Bl m (Hv safe keep l i o)
 | [], _, _, m => rfl
 | x :: r, i, o, m => by
  unfold Hx Hv
  by_cases hk : x.kind = 1
  ·have hk2 : ¬ (x.kind ≠ 1) := fun h => h hk
   rw [if_neg hk2, if_neg hk2]
   have e : ∀ s, Bl m (x :: s) = Bl (wr m x.at0 x.data) s := fun s => by
    show Bl (if x.kind = 1 then wr m x.at0 x.data else m) s = _
    rw [if_pos hk]
   by_cases h1 : i < safe
   ·rw [if_pos h1, if_pos h1, e, Uv r]
   ·rw [if_neg h1, if_neg h1]
    by_cases h2 : keep.getD o false = true
    ·rw [if_pos h2, if_pos h2, e, Uv r]
    ·rw [if_neg h2, if_neg h2, Uv r]
  ·rw [if_pos hk, if_pos hk, Uv r]
def Ea (l : List UInt8) (ios : List IoV) (cut : Nat) (keep : List Bool) : List UInt8 := Hx (eF (ios.take cut)) keep (ios.take cut) 0 0 l
theorem Mm {safe : Nat} {keep : List Bool} : ∀ (l : List IoV) (i o : Nat), ∀ x ∈ Hv safe keep l i o, x ∈ l ∧ x.kind = 1
 | [], _, _, x, h => by cases h
 | y :: r, i, o, x, h => by
  unfold Hv at h
  split at h
  ·have := Mm r _ _ x h; exact ⟨by simp [this.1], this.2⟩
  ·rename_i hk
   have hk := Df.1 hk
   split at h
   ·rcases Ar.1 h with rfl | h
    ·exact ⟨by simp, hk⟩
    ·have := Mm r _ _ x h; exact ⟨by simp [this.1], this.2⟩
   ·split at h
    ·rcases Ar.1 h with rfl | h
     ·exact ⟨by simp, hk⟩
     ·have := Mm r _ _ x h; exact ⟨by simp [this.1], this.2⟩
    ·have := Mm r _ _ x h; exact ⟨by simp [this.1], this.2⟩
theorem Abb (l : List UInt8) (ios : List IoV) (cut : Nat) (keep : List Bool) : Ea l ios cut keep = Bl l (Hv (eF (ios.take cut)) keep (ios.take cut) 0 0) := Uv _ _ _ _
theorem jC {l : List UInt8} {ios : List IoV} {cut : Nat} {keep : List Bool} (h : ∀ x ∈ ios, Ada (nb l) x) : (Ea l ios cut keep).length = l.length := by
 rw [Abb]
 exact Lh _ _ fun x hx => h x (Bi (Mm _ _ _ x hx).1)
attribute [local irreducible] aops Bo Cn Dh aop W WO
theorem Afc {k : Nat} {t f : Bool} {s : Nat} {ios : List IoV} {T : Tmps} {H : Heap} (hk : 1000000 ≤ k) (hs : s = 3 ∨ ios = []) (hl : ios.length < 100000) (h1 : H 1 = ⟨1, false, .row 1 []⟩)
  (hT : Has T [(3, .slc 1 1 0 1 0 0 none), (6, .islc t f s (ios.map IoV.av)), (7, .int .i64 ios.length), (8, .int .i64 0)]) :
  W (Bo (CF k) noX 0 k (.loop cK) T H) (fun ex T' H' => ex = .exit 0 ∧ H' 1 = ⟨1, false, .row 1 (NL (Bx ios))⟩ ∧ T' 3 = .slc 1 1 (Bx ios).length 1 0 (Bx ios).length none) := by
 refine Fc ios.length (fun i T' H' => H' 1 = ⟨1, false, .row 1 (NL (Bx (ios.take i)))⟩ ∧ Has T' [(3, .slc 1 1 (Bx (ios.take i)).length 1 0 (Bx (ios.take i)).length none), (6, .islc t f s (ios.map IoV.av)), (7, .int .i64 ios.length), (8, .int .i64 (i : Nat))]) ⟨h1, hT⟩ (by omega) ?_
 rintro i T H hi ⟨g1, hT⟩
 rw [hT.eq]
 simp only [over]
 unfold cK
 by_cases hlt : i < ios.length
 ·obtain rfl : s = 3 := hs.resolve_right (fun h => by rw [h] at hlt; simp at hlt)
  have hst := Adv hlt
  obtain ⟨⟨kd, a, d, dt, df, ds⟩, hx⟩ : ∃ x, x = ios[i] := ⟨_, rfl⟩
  rw [← hx] at hst
  have he2 : (ios.map IoV.av)[(i : Int).toNat]? = some (.agg [.int .i64 kd, .int .i64 a, .islc dt df ds (BL d)]) := by
   rw [As, Az, Ab hlt, ← hx]; rfl
  rw [hst]
  have hfl : (Bx (ios.take i)).length ≤ i := Gq (Td _) (by rw [Ba]; omega)
  generalize Bx (ios.take i) = F at *
  have hfn : (NL F).length = F.length := Bm F
  simp only
  by_cases h2 : kd = 2
  ·have h2' : (kd : Int) = 2 := by omega
   rw [if_pos h2]
   repeat' (first
    | refine qS ?_ | refine Ce rfl rfl (by omega) he2 rfl rfl ?_ | refine Ayc rfl rfl rfl (by exact g1) hfn rfl (by omega) rfl rfl (fun _ => ?_) | refine qQba ?_
    | refine Ac (fun _ => ?_) (fun _ => ?_) | refine Bh fun _ => ?_)
   refine ⟨hlt, ?_, ?_, rfl, rfl, by show AV.int _ _ = AV.int _ _; congr 1, trivial⟩
   ·rw [fP]; rfl
   ·rw [An]; rfl
  ·have h2' : (kd : Int) ≠ 2 := by omega
   rw [if_neg h2, Bw]
   repeat' (first | refine qS ?_ | refine Ce rfl rfl (by omega) he2 rfl rfl ?_ | refine qQba ?_ | refine Ac (fun _ => ?_) (fun _ => ?_) | refine Bh fun _ => ?_)
   exact ⟨hlt, g1, rfl, rfl, rfl, by show AV.int _ _ = AV.int _ _; congr 1, trivial⟩
 ·have hin : i = ios.length := by omega
  subst hin
  rw [Ca] at g1 ⊢
  repeat' (first | refine qQb ?_ | refine Ac (fun _ => ?_) (fun _ => ?_) | refine Bh fun _ => ?_)
  exact ⟨rfl, g1, rfl⟩
theorem fN (k : Nat) (hk : 1000001 ≤ k) (t f : Bool) (s : Nat) (ios : List IoV) (hs : s = 3 ∨ ios = []) (hl : ios.length < 100000) : FnV (CF k) gT [.islc t f s (ios.map IoV.av)] (.islc false false 1 (NL (Bx ios))) := by
 have hml : (ios.map IoV.av).length = ios.length := Ag _
 refine fnk (by omega) Aak rfl ?_
 unfold dev_Flushes
 repeat' (first | refine qS ?_ | refine Ak (n := ios.length) rfl hml rfl rfl ?_ | refine qQb ?_ | refine Ac (fun _ => ?_) (fun _ => ?_) | refine Bh fun _ => ?_)
 refine W.mono (Afc (k := k - 1) (t := t) (f := f) (s := s) (ios := ios) (by omega) hs hl rfl ⟨rfl, rfl, rfl, rfl, trivial⟩) ?_
 rintro ex T2 H2 ⟨rfl, g1, h3⟩
 rw [Has.eq (T := T2) (ps := [(3, _)]) ⟨h3, trivial⟩]
 simp only [over]
 show W _ _
 repeat' (first | refine qQb ?_ | refine Ac (fun _ => ?_) (fun _ => ?_) | refine Bh fun _ => ?_)
 refine ⟨Or.inr rfl, _, rfl, ?_⟩
 show fz true (4 + 2) H2 (AV.slc _ _ _ _ _ _ _) = _
 exact Fz g1 rfl 4
theorem Als {k : Nat} {l : List UInt8} {ios : List IoV} {keep : List Bool} {safe : Nat} {sf : Int} {t' f' t3 f3 : Bool} {s' s3 v : Nat} {T : Tmps} {H : Heap} (hk : 1000000 ≤ k) (hv : l.length = v) (hl : v < 1000000) (hil : ios.length < 100000) (hs : s' = 3 ∨ ios = []) (hok : ∀ x ∈ ios, Lj (nb l) x ∧ (x.s = 1 ∨ x.data = []))
  (hs3 : s3 = 1 ∨ keep = []) (hkl : keep.length < 100000) (hsf : ∀ i : Nat, (i : Int) < sf ↔ i < safe)
  (h0 : H 0 = ⟨1, false, .row 1 (BL l)⟩)
  (hT : Has T [(3, .islc t3 f3 s3 (keep.map AV.bool)), (11, .int .i64 sf), (13, .slc 0 1 v 1 0 v none), (14, .int .i64 0), (51, .islc t' f' s' (ios.map IoV.av)), (52, .int .i64 ios.length), (53, .int .i64 0)]) :
  W (Bo (CF k) noX 0 k (.loop Zr) T H) (fun ex T' H' => ex = .exit 1 ∧ H' 0 = ⟨1, false, .row 1 (BL (Hx safe keep ios 0 0 l))⟩ ∧ T' 13 = .slc 0 1 v 1 0 v none) := by
 generalize hG : Hx safe keep ios 0 0 l = tot
 refine Fc ios.length (fun i T' H' => ∃ m o, tot = Hx safe keep (ios.drop i) i o m ∧ m.length = v ∧ o ≤ i ∧ H' 0 = ⟨1, false, .row 1 (BL m)⟩ ∧
   Has T' [(3, .islc t3 f3 s3 (keep.map AV.bool)), (11, .int .i64 sf), (13, .slc 0 1 v 1 0 v none), (14, .int .i64 (o : Nat)), (51, .islc t' f' s' (ios.map IoV.av)), (52, .int .i64 ios.length), (53, .int .i64 (i : Nat))]) ⟨l, 0, hG.symm, hv, Au _, h0, hT⟩ (by omega) ?_
 rintro i T H hi ⟨m, o, hgo, hm, hoi, g0, hT⟩
 rw [hT.eq]
 simp only [over]
 unfold Zr
 by_cases hlt : i < ios.length
 ·obtain rfl : s' = 3 := hs.resolve_right (fun h => by rw [h] at hlt; simp at hlt)
  rw [Cc hlt] at hgo
  obtain ⟨⟨kd, a, d, t, f, s⟩, hx⟩ : ∃ x, x = ios[i] := ⟨_, rfl⟩
  have hxo := hok ios[i] (Bs hlt)
  rw [← hx] at hxo hgo
  have he2 : (ios.map IoV.av)[(i : Int).toNat]? = some (.agg [.int .i64 kd, .int .i64 a, .islc t f s (BL d)]) := by
   rw [As, Az, Ab hlt, ← hx]; rfl
  obtain ⟨hr, hsd⟩ := hxo
  unfold Hx at hgo
  simp only at hsd hgo
  have hkm : (keep.map AV.bool).length = keep.length := Ag _
  by_cases hkd : kd = 1
  ·have hkd' : (kd : Int) = 1 := by omega
   rw [if_neg (fun h => h hkd)] at hgo
   have hra : a < nb l ∧ d.length = 64 := by
    rcases hr with h | h
    ·exact ⟨h.2.1, h.2.2⟩
    ·have := h.1; simp only at this; omega
   have hle : 64 * (a + 1) ≤ v := by have := hra.1; unfold nb at this; omega
   have hsd1 : s = 1 := hsd.resolve_right (fun h => by have := hra.2; rw [h] at this; simp at this)
   subst hsd1
   have hwl : (wr m a d).length = v := by rw [uN (by rw [hm]; exact hle) hra.2]; exact hm
   have hof : ∀ H : Heap, H 0 = ⟨1, false, .row 1 (BL m)⟩ → CF k Wd (0 + 2) (.slc 0 1 v 1 0 v none :: [.int .i64 a]) (Ud H 0 1 (BL m)) = some (.slc 0 1 v 1 (64 * a) 64 none, Ud H 0 1 (BL m)) := fun H h => Abi k (by omega) m a 0 1 v 2 hm hl hle _ (by rw [Mq, h])
   have hrw : ∀ H : Heap, H 0 = ⟨1, false, .row 1 (BL m)⟩ → ((Ud H 0 1 (BL m)).row 0 1 v 1).isSome = true := fun H h => Ny.2 ⟨BL m, row_some.2 ⟨by rw [Mq, h], by rw [Mq], by simpa using hm⟩⟩
   have hbm : (BL m).length = v := by simpa using hm
   have hbd : (BL d).length = 64 := by simpa using hra.2
   have hnew : (⟨1, false, .row 1 ((BL m).take (64 * a) ++ BL d ++ (BL m).drop (64 * a + 64))⟩ : Blk) = ⟨1, false, .row 1 (BL (wr m a d))⟩ := by
    unfold wr
    rw [show 64 * (a + 1) = 64 * a + 64 by omega]
    simp [BL]
   by_cases hsi : i < safe
   ·have hsi' : (i : Int) < sf := (hsf i).2 hsi
    rw [if_pos hsi] at hgo
    repeat' (first
     | refine qS ?_ | refine qN ?_ | refine Ce rfl rfl (by omega) he2 rfl rfl ?_
     | refine Agd (j := 0) (s' := 1) (es := BL m) rfl (by exact Bp Blk.st g0) rfl (Ir m) (hof _ (by exact g0)) (hrw _ (by exact g0)) rfl (by kernel_rfl) ?_
     | refine Vp (m := BL d) (es := BL m) rfl rfl (.inl rfl) (Ir d) (by exact g0) hbm (by omega) hbd rfl (by kernel_rfl) ?_ | refine Fp (hl := by kernel_rfl) ?_
     | refine Ci ?_ (hr := by rfl) | refine Bd ?_ (hr := by rfl) (hl := by kernel_rfl) | refine qQba ?_ | refine Ac (fun _ => ?_) (fun _ => ?_))
    exact ⟨hlt, wr m a d, o, hgo, hwl, by omega, hnew, rfl, rfl, rfl, rfl, rfl, rfl, by show AV.int _ _ = AV.int _ _; congr 1, trivial⟩
   ·have hsi' : ¬ (i : Int) < sf := fun h => hsi ((hsf i).1 h)
    rw [if_neg hsi] at hgo
    by_cases hok2 : o < keep.length
    ·have hok2' : (o : Int) < (keep.length : Int) := by omega
     obtain rfl : s3 = 1 := hs3.resolve_right (fun h => by rw [h] at hok2; simp at hok2)
     have he3 : (keep.map AV.bool)[(o : Int).toNat]? = some (.bool keep[o]) := by
      rw [As, Az, Ab hok2]; rfl
     have hgd : keep.getD o false = keep[o] := by simp [hok2]
     rw [hgd] at hgo
     generalize keep[o] = kb at *
     cases kb with
     | true =>
      rw [if_pos rfl] at hgo
      repeat' (first
       | refine qS ?_ | refine qN ?_ | refine Ce rfl rfl (by omega) he2 rfl rfl ?_ | refine Ce rfl rfl (by omega) he3 rfl rfl ?_
       | refine Ak (n := keep.length) rfl hkm rfl rfl ?_
       | refine Agd (j := 0) (s' := 1) (es := BL m) rfl (by exact Bp Blk.st g0) rfl (Ir m) (hof _ (by exact g0)) (hrw _ (by exact g0)) rfl (by kernel_rfl) ?_
       | refine Vp (m := BL d) (es := BL m) rfl rfl (.inl rfl) (Ir d) (by exact g0) hbm (by omega) hbd rfl (by kernel_rfl) ?_ | refine Fp (hl := by kernel_rfl) ?_
       | refine Ci ?_ (hr := by rfl) | refine Bd ?_ (hr := by rfl) (hl := by kernel_rfl) | refine qQba ?_ | refine Ac (fun _ => ?_) (fun _ => ?_))
      exact ⟨hlt, wr m a d, o + 1, hgo, hwl, by omega, hnew, rfl, rfl, rfl, by show AV.int _ _ = AV.int _ _; congr 1, rfl, rfl, by show AV.int _ _ = AV.int _ _; congr 1, trivial⟩
     | false =>
      rw [if_neg (by decide)] at hgo
      repeat' (first
       | refine qS ?_ | refine qN ?_ | refine Ce rfl rfl (by omega) he2 rfl rfl ?_ | refine Ce rfl rfl (by omega) he3 rfl rfl ?_
       | refine Ak (n := keep.length) rfl hkm rfl rfl ?_ | refine Fp (hl := by kernel_rfl) ?_ | refine Ci ?_ (hr := by rfl)
       | refine Bd ?_ (hr := by rfl) (hl := by kernel_rfl) | refine qQba ?_ | refine Ac (fun _ => ?_) (fun _ => ?_))
      exact ⟨hlt, m, o + 1, hgo, hm, by omega, g0, rfl, rfl, rfl, by show AV.int _ _ = AV.int _ _; congr 1, rfl, rfl, by show AV.int _ _ = AV.int _ _; congr 1, trivial⟩
    ·have hok2' : ¬ (o : Int) < (keep.length : Int) := by omega
     have hgd : keep.getD o false = false := by simp [Af, Ew (by omega : keep.length ≤ o)]
     rw [hgd, if_neg (by decide)] at hgo
     repeat' (first
      | refine qS ?_ | refine qN ?_ | refine Ce rfl rfl (by omega) he2 rfl rfl ?_ | refine Ak (n := keep.length) rfl hkm rfl rfl ?_ | refine Fp (hl := by kernel_rfl) ?_
      | refine Ci ?_ (hr := by rfl) | refine Bd ?_ (hr := by rfl) (hl := by kernel_rfl) | refine qQba ?_ | refine Ac (fun _ => ?_) (fun _ => ?_))
     exact ⟨hlt, m, o + 1, hgo, hm, by omega, g0, rfl, rfl, rfl, by show AV.int _ _ = AV.int _ _; congr 1, rfl, rfl, by show AV.int _ _ = AV.int _ _; congr 1, trivial⟩
  ·have hkd' : (kd : Int) ≠ 1 := by omega
   rw [if_pos hkd] at hgo
   repeat' (first
    | refine qS ?_ | refine qN ?_ | refine Ce rfl rfl (by omega) he2 rfl rfl ?_ | refine Fp (hl := by kernel_rfl) ?_ | refine Ci ?_ (hr := by rfl)
    | refine Bd ?_ (hr := by rfl) (hl := by kernel_rfl) | refine qQba ?_ | refine Ac (fun _ => ?_) (fun _ => ?_))
   exact ⟨hlt, m, o, hgo, hm, by omega, g0, rfl, rfl, rfl, rfl, rfl, rfl, by show AV.int _ _ = AV.int _ _; congr 1, trivial⟩
 ·have hin : i = ios.length := by omega
  subst hin
  rw [Jb] at hgo
  unfold Hx at hgo
  repeat' (first | refine qS ?_ | refine qN ?_ | refine qQb ?_ | refine Ac (fun _ => ?_) (fun _ => ?_))
  exact ⟨rfl, by rw [hgo]; exact g0, rfl⟩
def eX (l : List UInt8) (ios : List IoV) (cut : Int) (keep : List Bool) : AV :=
 if Fl l ios ≠ 0 then .tup [.islc false true 0 [], .int .i64 (Fl l ios)] else if cut < 0 ∨ (ios.length : Int) < cut then .tup [.islc false true 0 [], .int .i64 1]
 else .tup [.islc false false 1 (BL (Ea l ios cut.toNat keep)), .int .i64 0]
theorem uB (k : Nat) (hk : 1000050 ≤ k) (t f : Bool) (l : List UInt8) (hl : l.length < 1000000) (t' f' : Bool) (s' : Nat) (ios : List IoV) (hs : s' = 3 ∨ ios = []) (hil : ios.length < 100000) (hio : ∀ x ∈ ios, x.s = 1 ∨ x.data = []) (cut : Int) (t3 f3 : Bool) (s3 : Nat) (keep : List Bool) (hs3 : s3 = 1 ∨ keep = []) (hkl : keep.length < 100000) :
  FnV (CF k) qR [.islc t f 1 (BL l), .islc t' f' s' (ios.map IoV.av), .int .i64 cut, .islc t3 f3 s3 (keep.map AV.bool)] (eX l ios cut keep) := by
 have hst := eN (k - 1) (by omega) t f l hl t' f' s' ios hs hil
 have hml : (ios.map IoV.av).length = ios.length := Ag _
 refine fnk (by omega) Akp rfl ?_
 unfold dev_Crash eX
 by_cases he : Fl l ios = 0
 rotate_left 1
 ·rw [if_pos he]
  have he' : (Fl l ios : Int) ≠ 0 := by omega
  repeat' (first | refine qS ?_ | refine qN ?_ | refine Am (hst) (fun _ => ?_) (fun _ => ?_) | refine Aa (hst) ?_ | refine qQb ?_ | refine Ac (fun _ => ?_) (fun _ => ?_))
  exact ⟨Or.inr rfl, _, rfl, rfl⟩
 rw [if_neg (fun h => h he)]
 obtain ⟨hd, hok⟩ := Mt he
 rw [he] at hst
 by_cases h0 : cut < 0
 ·rw [if_pos (.inl h0)]
  repeat' (first | refine qS ?_ | refine qN ?_ | refine Ak (n := ios.length) rfl hml rfl rfl ?_ | refine Am (hst) (fun _ => ?_) (fun _ => ?_) | refine Aa (hst) ?_ | refine qQb ?_ | fail)
  exact ⟨Or.inr rfl, _, rfl, rfl⟩
 by_cases h1 : (ios.length : Int) < cut
 ·rw [if_pos (.inr h1)]
  repeat' (first | refine qS ?_ | refine qN ?_ | refine Ak (n := ios.length) rfl hml rfl rfl ?_ | refine Am (hst) (fun _ => ?_) (fun _ => ?_) | refine Aa (hst) ?_ | refine qQb ?_ | fail)
  exact ⟨Or.inr rfl, _, rfl, rfl⟩
 rw [if_neg (fun h => h.elim h0 h1)]
 obtain ⟨c, hc⟩ : ∃ c : Nat, (c : Int) = cut := ⟨cut.toNat, by omega⟩
 subst hc
 have hcl : c ≤ ios.length := by omega
 rw [As]
 have hne : BL l ≠ [] := by
  intro h
  have : l.length = 0 := by have := Bp List.length h; simpa using this
  unfold devB at hd; omega
 have hcn := yJ (k - 1) (by omega) t f (BL l) hne (Ir l) (fun H => Ajp true 5 H l) (by simpa using hl)
 have hbl : (BL l).length = l.length := by simp
 have hsl : ((ios.map IoV.av).drop 0).take (c - 0) = (ios.take c).map IoV.av := by rw [Bv, Nl, Ez]
 have htl : (ios.take c).length = c := by rw [Ba]; omega
 have hsll : (((ios.map IoV.av).drop 0).take (c - 0)).length = c := by rw [hsl, Ag, htl]
 have hfl := fN (k - 1) (by omega) t' (f' && decide (c = ios.length)) 3 (ios.take c) (.inl rfl) (by omega)
 obtain ⟨F, hF⟩ : ∃ F, F = Bx (ios.take c) := ⟨_, rfl⟩
 have hFl : F.length ≤ c := by rw [hF]; exact Gq (Td _) (by omega)
 rw [← hF] at hfl
 have hfn : (NL F).length = F.length := Bm F
 have hfz : ∀ H : Heap, fz false 6 H (.islc t' (f' && decide (c = ios.length)) 3 (((ios.map IoV.av).drop 0).take (c - 0))) = .islc t' (f' && decide (c = ios.length)) 3 ((ios.take c).map IoV.av) := fun H => by rw [hsl]; rfl
 unfold Ea eF
 rw [← hF]
 have hloop : ∀ (sf : Int) (T : Tmps) (H : Heap), (∀ i : Nat, (i : Int) < sf ↔ i < F.getD (F.length - 1) 0) → H 0 = ⟨1, false, .row 1 (BL l)⟩ → Has T [(3, .islc t3 f3 s3 (keep.map AV.bool)), (11, .int .i64 sf), (13, .slc 0 1 l.length 1 0 l.length none), (14, .int .i64 0), (51, .islc t' (f' && decide (c = ios.length)) 3 ((ios.take c).map IoV.av)), (52, .int .i64 c), (53, .int .i64 0)] →
   W (Bo (CF (k - 1)) noX 0 (k - 1) (.loop Zr) T H) (fun ex T' H' => ex = .exit 1 ∧ H' 0 = ⟨1, false, .row 1 (BL (Hx (F.getD (F.length - 1) 0) keep (ios.take c) 0 0 l))⟩ ∧ T' 13 = .slc 0 1 l.length 1 0 l.length none) := by
  intro sf T H hsf hH hT
  refine Als (k := k - 1) (l := l) (ios := ios.take c) (keep := keep) (safe := F.getD (F.length - 1) 0) (sf := sf) (t' := t') (f' := f' && decide (c = ios.length)) (t3 := t3) (f3 := f3) (s' := 3) (s3 := s3) (v := l.length) (by omega) rfl hl (by omega) (.inl rfl) (fun x hx => ⟨hok x (Bi hx), hio x (Bi hx)⟩) hs3 hkl hsf hH ?_
  rw [htl]; exact hT
 have hfin : ∀ H2 : Heap, H2 0 = ⟨1, false, .row 1 (BL (Hx (F.getD (F.length - 1) 0) keep (ios.take c) 0 0 l))⟩ → AV.tup [fz true (3 + 2) H2 (.slc 0 1 l.length 1 0 l.length none), .int .i64 0] = .tup [.islc false false 1 (BL (Hx (F.getD (F.length - 1) 0) keep (ios.take c) 0 0 l)), .int .i64 0] := by
  intro H2 g0
  have hal : (Hx (F.getD (F.length - 1) 0) keep (ios.take c) 0 0 l).length = l.length := by
   rw [Uv]
   exact Lh _ _ fun x hx => Nu (hok x (Bi (Mm _ _ _ x hx).1))
  rw [tV (Fh g0 (by simpa using hal)) (by omega), Bv, Ah (by omega)]; rfl
 have hs3' : ((ios.map IoV.av).length) = ios.length := hml
 by_cases hs0 : s' = 3
 rotate_left 1
 ·
  have hi0 : ios = [] := hs.resolve_left hs0
  subst hi0
  obtain rfl : c = 0 := by simpa using hcl
  obtain rfl : F = [] := by rw [hF]; rfl
  repeat' (first
   | refine qS ?_ | refine qN ?_ | refine Ak (n := 0) rfl rfl rfl rfl ?_
   | refine Cg (n := 0) (a := 0) (b := 0) rfl (.inr rfl) rfl rfl (Dt rfl) (by omega) (by omega) rfl rfl ?_ | refine Aa hfl ?_ | refine Ob hcn hbl rfl rfl rfl ?_
   | refine Am (hst) (fun _ => ?_) (fun _ => ?_) | refine Aa (hst) ?_ | refine qQb ?_ | fail)
  refine W.mono (hloop (-1) _ _ (fun i => by simp) rfl ⟨rfl, rfl, rfl, rfl, rfl, rfl, rfl, trivial⟩) ?_
  rintro ex T2 H2 ⟨rfl, g0, h13⟩
  rw [Has.eq (T := T2) (ps := [(13, _)]) ⟨h13, trivial⟩]
  simp only [over]
  show W _ _
  repeat' (first | refine qS ?_ | refine qN ?_ | refine qQb ?_ | refine Ac (fun _ => ?_) (fun _ => ?_))
  exact ⟨Or.inr rfl, .tup [.slc 0 1 l.length 1 0 l.length none, .int .i64 0], rfl, hfin H2 g0⟩
 subst hs0
 by_cases hF0 : F = []
 ·subst hF0
  repeat' (first
   | refine qS ?_ | refine qN ?_ | refine Ak (n := ios.length) rfl hml rfl rfl ?_
   | refine Cg (n := ios.length) (a := 0) (b := c) rfl (.inl rfl) hml rfl (Dt rfl) (by omega) hcl rfl rfl ?_ | refine Aa hfl ?_ rfl (by exact Bp (fun z => [z]) (hfz _))
   | refine Ak (n := 0) rfl rfl rfl rfl ?_ | refine Ak (n := c) rfl hsll rfl rfl ?_ | refine Ob hcn hbl rfl rfl rfl ?_ | refine Am (hst) (fun _ => ?_) (fun _ => ?_)
   | refine Aa (hst) ?_ | refine qQb ?_ | fail)
  refine W.mono (hloop (-1) _ _ (fun i => by simp) rfl ⟨rfl, rfl, rfl, rfl, Bp (AV.islc _ _ _) hsl, rfl, rfl, trivial⟩) ?_
  rintro ex T2 H2 ⟨rfl, g0, h13⟩
  rw [Has.eq (T := T2) (ps := [(13, _)]) ⟨h13, trivial⟩]
  simp only [over]
  show W _ _
  repeat' (first | refine qS ?_ | refine qN ?_ | refine qQb ?_ | refine Ac (fun _ => ?_) (fun _ => ?_))
  exact ⟨Or.inr rfl, .tup [.slc 0 1 l.length 1 0 l.length none, .int .i64 0], rfl, hfin H2 g0⟩
 ·have hFp : 0 < F.length := Ey.2 hF0
  have hFp' : (F.length : Int) > 0 := by omega
  have hidx : (NL F)[((F.length : Int) - 1).toNat]? = some (.int .i64 (F.getD (F.length - 1) 0 : Nat)) := by
   rw [show ((F.length : Int) - 1).toNat = F.length - 1 by omega]
   unfold NL
   rw [Az, Ab (by omega), Af, Ab (by omega)]; rfl
  repeat' (first
   | refine qS ?_ | refine qN ?_ | refine Ak (n := ios.length) rfl hml rfl rfl ?_
   | refine Cg (n := ios.length) (a := 0) (b := c) rfl (.inl rfl) hml rfl (Dt rfl) (by omega) hcl rfl rfl ?_ | refine Aa hfl ?_ rfl (by exact Bp (fun z => [z]) (hfz _))
   | refine Ak (n := F.length) rfl hfn rfl rfl ?_ | refine Ak (n := c) rfl hsll rfl rfl ?_ | refine Ce rfl rfl (by omega) hidx rfl rfl ?_
   | refine Ob hcn hbl rfl rfl rfl ?_ | refine Am (hst) (fun _ => ?_) (fun _ => ?_) | refine Aa (hst) ?_ | refine qQba ?_ | fail)
  refine W.mono (hloop (F.getD (F.length - 1) 0 : Nat) _ _ (fun i => by omega) rfl ⟨rfl, rfl, rfl, rfl, Bp (AV.islc _ _ _) hsl, rfl, rfl, trivial⟩) ?_
  rintro ex T2 H2 ⟨rfl, g0, h13⟩
  rw [Has.eq (T := T2) (ps := [(13, _)]) ⟨h13, trivial⟩]
  simp only [over]
  show W _ _
  repeat' (first | refine qS ?_ | refine qN ?_ | refine qQb ?_ | refine Ac (fun _ => ?_) (fun _ => ?_))
  exact ⟨Or.inr rfl, .tup [.slc 0 1 l.length 1 0 l.length none, .int .i64 0], rfl, hfin H2 g0⟩
def Ni : List UInt8 → List IoV → List Nat → Nat → Nat → List ViewV → Except Nat (List ViewV)
 | _, _, [], _, _, acc => .ok acc
 | img, ios, a :: r, i, frm, acc => if i % 2 ≠ 1 then Ni img ios r (i + 1) frm acc else
  match Ff (Bl img ((ios.drop frm).take (a + 1 - frm))) with
  | .error (_, e) => .error e
  | .ok x => Ni (Bl img ((ios.drop frm).take (a + 1 - frm))) ios r (i + 1) (a + 1) (acc ++ [Cv (Bl img ((ios.drop frm).take (a + 1 - frm))) x])
def Od (l : List UInt8) (ios : List IoV) : Except Nat (List ViewV) := if Fl l ios ≠ 0 then .error (Fl l ios) else
 match Ff l with
 | .error (_, e) => .error e
 | .ok x => Ni l ios (Bx ios) 0 0 [Cv l x]
def stAv : Except Nat (List ViewV) → AV
 | .ok vs => .tup [.islc false false 3 (vs.map ViewV.av), .int .i64 0]
 | .error e => .tup [.islc false false 3 [], .int .i64 e]
def kL (l : List UInt8) (ios : List IoV) (cut : Int) (keep : List Bool) : AV :=
 if Fl l ios ≠ 0 then .tup [.agg [.islc false true 0 [], .islc false true 0 [], .islc false true 0 []], .int .i64 (Fl l ios)] else if cut < 0 ∨ (ios.length : Int) < cut then .tup [.agg [.islc false true 0 [], .islc false true 0 [], .islc false true 0 []], .int .i64 1]
 else Rv (Ea l ios cut.toNat keep) (Ff (Ea l ios cut.toNat keep))
theorem Asj (l : List UInt8) : ∃ (f1 f2 f3 : Bool) (s1 s2 s3 : Nat) (e1 e2 e3 : List AV) (e : Nat), Rv l (Ff l) = .tup [.agg [.islc false f1 s1 e1, .islc false f2 s2 e2, .islc false f3 s3 e3], .int .i64 e] := by
 cases Ff l with
 | error p => obtain ⟨a, e⟩ := p; exact ⟨_, _, _, _, _, _, _, _, _, e, rfl⟩
 | ok x =>
  obtain ⟨f2, s2, h2, _⟩ := Hw (Cv l x).snaps
  obtain ⟨f3, s3, h3, _⟩ := Hw (Cv l x).opens
  refine ⟨false, f2, f3, 1, s2, s3, (Cv l x).head.map Et, (Cv l x).snaps.map SnapV.av, (Cv l x).opens.map SnapV.av, 0, ?_⟩
  unfold Rv ViewV.cs
  simp only
  rw [h2, h3]
  rfl
theorem kX (k : Nat) (hk : 1000300 ≤ k) (t f : Bool) (l : List UInt8) (hl : l.length < 1000000) (t' f' : Bool) (s' : Nat) (ios : List IoV) (hs : s' = 3 ∨ ios = []) (hil : ios.length < 100000) (hio : ∀ x ∈ ios, x.s = 1 ∨ x.data = []) (cut : Int) (t3 f3 : Bool) (s3 : Nat) (keep : List Bool) (hs3 : s3 = 1 ∨ keep = []) (hkl : keep.length < 100000) :
  FnV (CF k) Xt [.islc t f 1 (BL l), .islc t' f' s' (ios.map IoV.av), .int .i64 cut, .islc t3 f3 s3 (keep.map AV.bool)] (kL l ios cut keep) := by
 have hcr := uB (k - 1) (by omega) t f l hl t' f' s' ios hs hil hio cut t3 f3 s3 keep hs3 hkl
 refine fnk (by omega) Aao rfl ?_
 unfold dC
 unfold eX at hcr
 unfold kL
 by_cases he : Fl l ios = 0
 rotate_left 1
 ·rw [if_pos he] at hcr ⊢
  have he' : (Fl l ios : Int) ≠ 0 := by omega
  repeat' (first | refine Am (hcr) (fun _ => ?_) (fun _ => ?_) | refine Aa (hcr) ?_ | refine qQb ?_ | refine Ac (fun _ => ?_) (fun _ => ?_))
  exact ⟨Or.inr rfl, _, rfl, rfl⟩
 rw [if_neg (fun h => h he)] at hcr ⊢
 by_cases h0 : cut < 0 ∨ (ios.length : Int) < cut
 ·rw [if_pos h0] at hcr ⊢
  repeat' (first | refine Am (hcr) (fun _ => ?_) (fun _ => ?_) | refine Aa (hcr) ?_ | refine qQb ?_ | refine Ac (fun _ => ?_) (fun _ => ?_))
  exact ⟨Or.inr rfl, _, rfl, rfl⟩
 rw [if_neg h0] at hcr ⊢
 have hcl : (Ea l ios cut.toNat keep).length < 1000000 := by
  rw [jC fun x hx => Nu ((Mt he).2 x hx)]; exact hl
 have hv := Kt (k - 1) (by omega) false (Ea l ios cut.toNat keep) hcl
 obtain ⟨f1, f2, f3, s1, s2, s3, e1, e2, e3, e, hvq⟩ := Asj (Ea l ios cut.toNat keep)
 rw [hvq] at hv ⊢
 repeat' (first | refine qS ?_ | refine Aa hv ?_ | refine Am (hcr) (fun _ => ?_) (fun _ => ?_) | refine Aa (hcr) ?_ | refine qQb ?_ | refine Ac (fun _ => ?_) (fun _ => ?_))
 exact ⟨Or.inr rfl, _, rfl, rfl⟩
theorem Akx {k : Nat} {l : List UInt8} {ios : List IoV} {t' f' : Bool} {v0 : ViewV} {T : Tmps} {H : Heap} {f0 : Bool} (hk : 1000300 ≤ k) (hl : l.length < 1000000) (hil : ios.length < 100000) (hok : ∀ x ∈ ios, Lj (nb l) x ∧ (x.s = 1 ∨ x.data = [])) (hdv : devB l.length)
  {c1 c2 c3 : AV} (h2 : H 2 = ⟨1, false, .row 3 [.agg [c1, c2, c3]]⟩) (h4 : H 4 = ⟨1, false, .row 3 [v0.av]⟩)
  (hT : Has T [(0, .islc false f0 1 (BL l)), (1, .islc t' f' 3 (ios.map IoV.av)), (7, .ptr 2 1 1 3 0 0), (8, .slc 4 1 1 3 0 1 none), (9, .int .i64 0), (29, .islc false false 1 (NL (Bx ios))), (30, .int .i64 (Bx ios).length), (31, .int .i64 0)]) :
  W (Bo (CF k) noX 0 k (.loop bJ) T H) (fun ex T' H' => (ex = .exit 0 ∧ ∃ vs, Ni l ios (Bx ios) 0 0 [v0] = .ok vs ∧ H' 4 = ⟨1, false, .row 3 (vs.map ViewV.av)⟩ ∧ T' 8 = .slc 4 1 vs.length 3 0 vs.length none) ∨
   (ex = .ret ∧ ∃ e g : Nat, Ni l ios (Bx ios) 0 0 [v0] = .error e ∧ T' 4 = .slc 5 g 0 3 0 0 none ∧ T' 5 = .int .i64 e ∧ H' 5 = ⟨g, false, .row 3 []⟩)) := by
 generalize hG : Ni l ios (Bx ios) 0 0 [v0] = tot
 have hrg := aV ios 0
 obtain ⟨F, hF⟩ : ∃ F, F = Bx ios := ⟨_, rfl⟩
 rw [← hF] at hG hT
 have hFr : (∀ a ∈ F, a < ios.length) ∧ F.Pairwise (· < ·) := by
  rw [hF]; exact ⟨fun a ha => by have := (hrg.1 a ha).2; omega, hrg.2⟩
 have hFl : F.length ≤ ios.length := by rw [hF]; exact Td ios
 clear hrg
 refine Fc F.length (fun i T' H' => ∃ (img : List UInt8) (f0 : Bool) (frm : Nat) (acc : List ViewV) (c1 c2 c3 : AV), tot = Ni img ios (F.drop i) i frm acc ∧ img.length = l.length ∧ (∀ a ∈ F.drop i, frm ≤ a) ∧ frm ≤ ios.length ∧ acc.length ≤ i + 1 ∧
   H' 2 = ⟨1, false, .row 3 [.agg [c1, c2, c3]]⟩ ∧ H' 4 = ⟨1, false, .row 3 (acc.map ViewV.av)⟩ ∧
   Has T' [(0, .islc false f0 1 (BL img)), (1, .islc t' f' 3 (ios.map IoV.av)), (7, .ptr 2 1 1 3 0 0), (8, .slc 4 1 acc.length 3 0 acc.length none), (9, .int .i64 frm), (29, .islc false false 1 (NL F)), (30, .int .i64 F.length), (31, .int .i64 (i : Nat))])
  ⟨l, f0, 0, [v0], c1, c2, c3, hG.symm, rfl, fun a _ => Eo a, Eo _, by simp, h2, h4, hT⟩ (by omega) ?_
 rintro i T H hi ⟨img, f0, frm, acc, c1, c2, c3, hgo, him, hfr, hfl, hal, g2, g4, hT⟩
 rw [hT.eq]
 simp only [over]
 unfold bJ
 by_cases hlt : i < F.length
 ·rw [Cc hlt] at hgo hfr
  obtain ⟨a, ha⟩ : ∃ a, a = F[i] := ⟨_, rfl⟩
  rw [← ha] at hgo hfr
  have hal2 : a < ios.length := by rw [ha]; exact hFr.1 _ (Bs hlt)
  have hnx : ∀ b ∈ F.drop (i + 1), a < b := by
   have hp := hFr.2
   rw [← Ig i F, List.pairwise_append, Cc hlt, ← ha, List.pairwise_cons] at hp
   exact hp.2.1.1
  have hfa := hfr a (by simp)
  have he2 : (NL F)[(i : Int).toNat]? = some (.int .i64 (a : Nat)) := by
   rw [As]; unfold NL; rw [Az, Ab hlt, ← ha]; rfl
  simp only [Ni] at hgo
  by_cases hodd : i % 2 = 1
  rotate_left 1
  ·rw [if_pos hodd] at hgo
   have hodd' : (i : Int) % 2 ≠ 1 := by omega
   repeat' (first | refine qS ?_ | refine Ce rfl rfl (by omega) he2 rfl rfl ?_ | refine qQa ?_ | refine Bh fun _ => ?_)
   exact ⟨hlt, img, f0, frm, acc, c1, c2, c3, hgo, him, fun b hb => hfr b (by simp [hb]), hfl, by omega, g2, g4, rfl, rfl, rfl, rfl, rfl, rfl, rfl, by show AV.int _ _ = AV.int _ _; congr 1, trivial⟩
  rw [if_neg (fun h => h hodd)] at hgo
  have hodd' : (i : Int) % 2 = 1 := by omega
  have hml : (ios.map IoV.av).length = ios.length := Ag _
  obtain ⟨sub, hsub⟩ : ∃ s, s = (ios.drop frm).take (a + 1 - frm) := ⟨_, rfl⟩
  have hsm : ∀ x ∈ sub, x ∈ ios := fun x hx => by rw [hsub] at hx; exact Dg (Bi hx)
  have hsl : ((ios.map IoV.av).drop frm).take (a + 1 - frm) = sub.map IoV.av := by rw [hsub, Ez, Eb]
  have hsle : sub.length ≤ ios.length := by rw [hsub, Ba, Bj]; omega
  rw [← hsub] at hgo
  have hnb : nb img = nb l := by unfold nb; rw [him]
  have hst0 : Fl img sub = 0 := by
   unfold Fl
   rw [if_neg (fun h => h (by rw [him]; exact hdv)), if_neg]
   intro h
   obtain ⟨x, hx, hxe⟩ := Fe.1 h
   rw [hnb, Aq (hok x (hsm x hx)).1] at hxe
   cases hxe
  have hap := Up k (by omega) false f0 img (by rw [him]; exact hl) t' (f' && decide (a + 1 = ios.length)) 3 sub (.inl rfl) (by omega) (fun x hx => (hok x (hsm x hx)).2)
  unfold Pf at hap
  rw [if_neg (fun h => h hst0)] at hap
  have hal3 : (Bl img sub).length = l.length := by
   rw [Lh _ _ (fun x hx => by rw [hnb]; exact Nu (hok x (hsm x hx)).1)]; exact him
  have hvw := Kt k (by omega) false (Bl img sub) (by rw [hal3]; exact hl)
  have e1 : (a : Int) + 1 = ((a + 1 : Nat) : Int) := by omega
  have hfz : ∀ (z : AV) (H : Heap), fz false 6 H z = z → [z, AV.islc t' (f' && decide (a + 1 = ios.length)) 3 (((ios.map IoV.av).drop frm).take (a + 1 - frm))].map (fz false 6 H) = [z, .islc t' (f' && decide (a + 1 = ios.length)) 3 (sub.map IoV.av)] := by
   intro z H hz
   rw [hsl]
   show [fz false 6 H z, _] = _
   rw [hz]; rfl
  generalize Bl img sub = img2 at *
  cases hq : Ff img2 with
  | error p =>
   obtain ⟨b, e⟩ := p
   have hee := Gr hq
   rw [hq] at hvw hgo
   unfold Rv at hvw
   simp only at hvw hgo
   have he0 : (e : Int) ≠ 0 := by omega
   repeat' (first
    | refine qS ?_ | refine Ce rfl rfl (by omega) he2 rfl rfl ?_ | (rw [e1])
    | refine Cg (n := ios.length) (a := frm) (b := a + 1) rfl (.inl rfl) hml (Dt rfl) (Dt rfl) (by omega) (by omega) rfl rfl ?_
    | refine Aa hap ?_ rfl (by exact hfz _ _ rfl) | refine Aa hvw ?_ | refine Ci ?_ (hr := by exact g2) | refine qQa ?_ | refine Bh fun _ => ?_)
   exact .inr ⟨rfl, e, _, hgo, rfl, rfl, rfl⟩
  | ok x =>
   rw [hq] at hvw hgo
   unfold Rv at hvw
   simp only at hvw hgo
   obtain ⟨fS, sS, eS, hS⟩ := Hw (Cv img2 x).snaps
   obtain ⟨fO, sO, eO, hO⟩ := Hw (Cv img2 x).opens
   obtain ⟨w, hw⟩ : ∃ w, w = Cv img2 x := ⟨_, rfl⟩
   rw [← hw] at hgo hvw eS eO
   have hvw' : FnV (CF k) fV [.islc false false 1 (BL img2)] (.tup [.agg [.islc false false 1 (w.head.map Et), .islc false fS sS (w.snaps.map SnapV.av), .islc false fO sO (w.opens.map SnapV.av)], .int .i64 0]) := by
    rw [← eS, ← eO]; exact hvw
   have hwa : w.av = .agg [.islc false false 1 (w.head.map Et), .islc false fS sS (w.snaps.map SnapV.av), .islc false fO sO (w.opens.map SnapV.av)] := by
    rw [← eS, ← eO]; rfl
   have ham : (acc.map ViewV.av).length = acc.length := Ag _
   repeat' (first
    | refine qS ?_ | refine Ce rfl rfl (by omega) he2 rfl rfl ?_ | (rw [e1])
    | refine Cg (n := ios.length) (a := frm) (b := a + 1) rfl (.inl rfl) hml (Dt rfl) (Dt rfl) (by omega) (by omega) rfl rfl ?_
    | refine Aa hap ?_ rfl (by exact hfz _ _ rfl) | refine Aa hvw' ?_ | refine Ci ?_ (hr := by exact g2) | refine Bd ?_ (hr := by rfl)
    | refine Kw (e := .agg [.islc false false 1 (w.head.map Et), .islc false fS sS (w.snaps.map SnapV.av), .islc false fO sO (w.opens.map SnapV.av)]) rfl rfl rfl (by exact g4) ham rfl (by omega) rfl rfl (fun _ => ?_)
    | refine qQa ?_ | refine Bh fun _ => ?_)
   refine ⟨hlt, img2, false, a + 1, acc ++ [w], _, _, _, hgo, hal3, fun b hb => hnx b hb, by omega, by simp; omega, rfl, ?_, rfl, rfl, rfl, ?_, by show AV.int _ _ = AV.int _ _; congr 1, rfl, rfl, by show AV.int _ _ = AV.int _ _; congr 1, trivial⟩
   ·rw [Bn, Bc, Lz, hwa]; rfl
   ·rw [An]; rfl
 ·have hin : i = F.length := by omega
  subst hin
  rw [Jb] at hgo
  simp only [Ni] at hgo
  repeat' (first | refine qQ ?_ | refine Ac (fun _ => ?_) (fun _ => ?_) | refine Bh fun _ => ?_)
  exact .inl ⟨rfl, acc, hgo, g4, rfl⟩
theorem mK {H : Heap} {j g : Nat} {vs : List ViewV} (h : H j = ⟨g, false, .row 3 (vs.map ViewV.av)⟩) (n : Nat) : fz true (n + 3) H (.slc j g vs.length 3 0 vs.length none) = .islc false false 3 (vs.map ViewV.av) := by
 have e : (vs.map ViewV.av).map (fz true (n + 2) H) = vs.map ViewV.av := by
  rw [Gb]
  refine Bg fun v _ => ?_
  show AV.agg [_, fz true (n + 1) H (Rc v.snaps), fz true (n + 1) H (Rc v.opens)] = AV.agg [_, _, _]
  obtain ⟨f2, s2, h2, _⟩ := Hw v.snaps
  obtain ⟨f3, s3, h3, _⟩ := Hw v.opens
  rw [h2, h3]; rfl
 show fz true (n + 2 + 1) H _ = _
 rw [Qc (Fh h (by simp)) (by omega), Bv, Ah (by simp), e]
 rfl
theorem xH (k : Nat) (hk : 1000400 ≤ k) (f : Bool) (l : List UInt8) (hl : l.length < 1000000) (t' f' : Bool) (ios : List IoV) (hil : ios.length < 100000) (hio : ∀ x ∈ ios, x.s = 1 ∨ x.data = []) :
  FnV (CF k) eP [.islc false f 1 (BL l), .islc t' f' 3 (ios.map IoV.av)] (stAv (Od l ios)) := by
 have hst := eN (k - 1) (by omega) false f l hl t' f' 3 ios (.inl rfl) hil
 refine fnk (by omega) uW rfl ?_
 unfold crash_States Od
 by_cases he : Fl l ios = 0
 rotate_left 1
 ·rw [if_pos he]
  have he' : (Fl l ios : Int) ≠ 0 := by omega
  repeat' (first | refine Am (hst) (fun _ => ?_) (fun _ => ?_) | refine Aa (hst) ?_ | refine qQ ?_ | refine Ac (fun _ => ?_) (fun _ => ?_) | refine Bh fun _ => ?_)
  refine ⟨Or.inr rfl, .tup [.slc 1 1 0 3 0 0 none, .int .i64 (Fl l ios)], rfl, ?_⟩
  exact Bp (fun z => AV.tup [z, .int .i64 (Fl l ios)]) (mK (vs := []) (by rfl) 2)
 rw [if_neg (fun h => h he)]
 obtain ⟨hd, hok⟩ := Mt he
 rw [he] at hst
 have hvw := Kt (k - 1) (by omega) f l hl
 have hfl := fN (k - 1) (by omega) t' f' 3 ios (.inl rfl) hil
 cases hq : Ff l with
 | error p =>
  obtain ⟨b, e⟩ := p
  have hee := Gr hq
  rw [hq] at hvw
  unfold Rv at hvw
  simp only at hvw ⊢
  have he0 : (e : Int) ≠ 0 := by omega
  repeat' (first | refine qS ?_ | refine Aa hvw ?_ | refine Am (hst) (fun _ => ?_) (fun _ => ?_) | refine Aa (hst) ?_ | refine qQ ?_ | refine Bh fun _ => ?_)
  refine ⟨Or.inr rfl, .tup [.slc 3 1 0 3 0 0 none, .int .i64 e], rfl, ?_⟩
  exact Bp (fun z => AV.tup [z, .int .i64 e]) (mK (vs := []) (by rfl) 2)
 | ok x =>
  rw [hq] at hvw
  unfold Rv at hvw
  simp only at hvw ⊢
  obtain ⟨fS, sS, eS, hS⟩ := Hw (Cv l x).snaps
  obtain ⟨fO, sO, eO, hO⟩ := Hw (Cv l x).opens
  obtain ⟨w, hw⟩ : ∃ w, w = Cv l x := ⟨_, rfl⟩
  rw [← hw] at hvw eS eO ⊢
  have hvw' : FnV (CF (k - 1)) fV [.islc false f 1 (BL l)] (.tup [.agg [.islc false false 1 (w.head.map Et), .islc false fS sS (w.snaps.map SnapV.av), .islc false fO sO (w.opens.map SnapV.av)], .int .i64 0]) := by
   rw [← eS, ← eO]; exact hvw
  have hwa : w.av = .agg [.islc false false 1 (w.head.map Et), .islc false fS sS (w.snaps.map SnapV.av), .islc false fO sO (w.opens.map SnapV.av)] := by
   rw [← eS, ← eO]; rfl
  have hfn : (NL (Bx ios)).length = (Bx ios).length := Bm _
  repeat' (first
   | refine qS ?_ | refine Aa hvw' ?_ | refine Aa hfl ?_ | refine Fp ?_ (hl := by kernel_rfl) | refine Ak (n := (Bx ios).length) rfl hfn rfl rfl ?_
   | refine Am (hst) (fun _ => ?_) (fun _ => ?_) | refine Aa (hst) ?_ | refine qQ ?_ | refine Bh fun _ => ?_)
  refine W.mono (Akx (k := k - 1) (l := l) (ios := ios) (t' := t') (f' := f') (v0 := w) (f0 := f) (c1 := .islc false false 1 (w.head.map Et)) (c2 := .islc false fS sS (w.snaps.map SnapV.av)) (c3 := .islc false fO sO (w.opens.map SnapV.av)) (by omega) hl hil (fun x hx => ⟨hok x hx, hio x hx⟩) hd ?_ ?_ ?_) ?_
  ·rfl
  ·rw [hwa]; rfl
  ·exact ⟨rfl, rfl, rfl, rfl, rfl, rfl, rfl, rfl, trivial⟩
  rintro ex T2 H2 (⟨rfl, vs, hvs, g4, h8⟩ | ⟨rfl, e, g, hvs, h4, h5, g5⟩)
  ·rw [hvs, Has.eq (T := T2) (ps := [(8, _)]) ⟨h8, trivial⟩]
   simp only [over]
   show W _ _
   repeat' (first | refine qQ ?_ | refine Ac (fun _ => ?_) (fun _ => ?_) | refine Bh fun _ => ?_)
   refine ⟨Or.inr rfl, .tup [.slc 4 1 vs.length 3 0 vs.length none, .int .i64 0], rfl, ?_⟩
   exact Bp (fun z => AV.tup [z, .int .i64 0]) (mK g4 2)
  ·rw [hvs]
   refine ⟨Or.inr rfl, .tup [.slc 5 g 0 3 0 0 none, .int .i64 e], ?_, ?_⟩
   ·show Hd T2 H2 [.tmp 4, .tmp 5] = _
    simp only [Hd, ares, Ov, qO, h4, h5]; rfl
   ·exact Bp (fun z => AV.tup [z, .int .i64 e]) (mK (vs := []) g5 2)
theorem Acc (k : Nat) (hk : 1000010 ≤ k) (t f : Bool) (s : Nat) (ios : List IoV) (hs : s = 3 ∨ ios = []) (hil : ios.length < 100000) : FnV (CF k) Tr [.islc t f s (ios.map IoV.av)] (.int .i64 ((Bx ios).length / 2 : Nat)) := by
 have hfl := fN (k - 1) (by omega) t f s ios hs hil
 have hfn : (NL (Bx ios)).length = (Bx ios).length := Bm _
 have hb := Td ios
 generalize Bx ios = F at *
 refine fnk (by omega) sM rfl ?_
 unfold Xp
 repeat' (first | refine qS ?_ | refine Aa hfl ?_ | refine Ak (n := F.length) rfl hfn rfl rfl ?_ | refine qQ ?_ | fail)
 refine ⟨Or.inr rfl, _, rfl, ?_⟩
 show AV.int _ _ = AV.int _ _
 congr 1
end Go.Proofs.YtkaiiopoilpjeaaGreat
set_option maxRecDepth 10000
namespace Go.Proofs.YtkaiiopoilpjeaaGreat
open Go.AI
theorem rO (l : List UInt8) (a b : List IoV) (x : IoV) (h : x.kind ≠ 1) : Bl l (a ++ x :: b) = Bl l (a ++ b) := by
 rw [Sp, Sp]
 show Bl (if x.kind = 1 then _ else Bl l a) b = _
 rw [if_neg h]
theorem fA (ios : List IoV) : ∀ x ∈ iosW ios, x.kind = 1 := by
 intro x hx
 obtain ⟨y, hy, rfl⟩ := Cm.1 hx
 rfl
theorem dS (ios : List IoV) : (iosW ios).length = ios.length := Ag _
theorem Xf {safe : Nat} {keep : List Bool} : ∀ (a b : List IoV) (i o : Nat), (∀ x ∈ a, x.kind = 1) → i + a.length ≤ safe → Hv safe keep (a ++ b) i o = a ++ Hv safe keep b (i + a.length) o
 | [], b, i, o, _, _ => by simp
 | x :: a, b, i, o, h, hs => by
  simp only [Ap] at hs
  have h1 := Xf (safe := safe) (keep := keep) a b (i + 1) o (fun y hy => h y (by simp [hy])) (by omega)
  have hx : ¬ (x.kind ≠ 1) := fun hh => hh (h x (by simp))
  simp only [Hi, Hv, Ap]
  rw [if_neg hx, if_pos (by omega), h1, show i + 1 + a.length = i + (a.length + 1) by omega]
theorem Xs : ∀ (a : List IoV) (i : Nat), (∀ x ∈ a, x.kind = 1) → Kf a i = []
 | [], _, _ => rfl
 | x :: a, i, h => by
  have hx : ¬ (x.kind = 2) := by have := h x (by simp); omega
  simp only [Kf]
  rw [if_neg hx, Xs a (i + 1) (fun y hy => h y (by simp [hy]))]; rfl
section
variable {s : Sup} {slot : Nat} {ios : List IoV} {root size first : Nat}
theorem Ml : Em s slot ios root size first = iosW ios ++ [flushIo, wIo (1 - slot) (supB (Mc s root size first)), flushIo] := by unfold Em; simp
theorem Pl : (Em s slot ios root size first).length = ios.length + 3 := by rw [Ml, An, dS]; rfl
theorem Sq (cut : Nat) (h : cut ≤ ios.length + 3) : Bx ((Em s slot ios root size first).take cut) = (if cut ≤ ios.length then [] else if cut ≤ ios.length + 2 then [ios.length] else [ios.length, ios.length + 2]) := by
 have hw := Xs (iosW ios) 0 (fA ios)
 have hl := dS ios
 rw [Ml]
 unfold Bx
 by_cases h1 : cut ≤ ios.length
 ·rw [if_pos h1, Cr (by omega)]
  exact Xs _ 0 fun x hx => fA ios x (Bi hx)
 ·rw [if_neg h1, bB, Ah (by omega), Sw, hw, hl, Db, Ch]
  rcases (by omega : cut = ios.length + 1 ∨ cut = ios.length + 2 ∨ cut = ios.length + 3) with rfl | rfl | rfl
  ·rw [if_pos (by omega), show ios.length + 1 - ios.length = 1 by omega]; rfl
  ·rw [if_pos (by omega), show ios.length + 2 - ios.length = 2 by omega]; rfl
  ·rw [if_neg (by omega), show ios.length + 3 - ios.length = 3 by omega]; rfl
theorem Ajn {l : List UInt8} {x : Img} {cut : Nat} {keep : List Bool} (hd : Dev l) (hI : IsImg l x) (hF : Frees l x ios) (hs : s = x.sup) (hsl : slot = x.slot) (hc : cut ≤ ios.length + 3) :
  (cut ≤ ios.length + 2 ∧ ∀ a, reached l x a → blk (Ea l (Em s slot ios root size first) cut keep) a = blk l a) ∨
  (ios.length + 2 ≤ cut ∧ Ea l (Em s slot ios root size first) cut keep = Bl l (Em s slot ios root size first)) := by
 subst hs hsl
 have hnb2 : 2 ≤ nb l := by have := hd.nb; omega
 have hl := dS ios
 have hfit := Yq (s := x.sup) (slot := x.slot) (root := root) (size := size) (first := first) hnb2 hF.fit
 have hfl := Sq (s := x.sup) (slot := x.slot) (ios := ios) (root := root) (size := size) (first := first) cut hc
 have hkeep : ∀ sel : List IoV, (∀ y ∈ sel, y ∈ iosW ios) → ∀ a, reached l x a → blk (Bl l sel) a = blk l a := by
  intro sel hsel a ha
  refine Tj sel l (fun y hy => ?_) ?_
  ·exact hfit y (by rw [Ml]; exact Ha _ (hsel y hy))
  ·intro y hy hk he
   obtain ⟨z, hz, rfl⟩ := Cm.1 (hsel y hy)
   exact hF.free z hz (by rw [show z.at0 = a from he]; exact ha)
 rw [Abb]
 by_cases h1 : cut ≤ ios.length + 1
 ·left
  refine ⟨by omega, hkeep _ fun y hy => ?_⟩
  obtain ⟨h2, h3⟩ := Mm _ _ _ y hy
  rw [Ml, bB] at h2
  rcases Bq.1 h2 with h2 | h2
  ·exact Bi h2
  ·have h4 : y ∈ ([flushIo, wIo (1 - x.slot) (supB (Mc x.sup root size first)), flushIo]).take 1 := by
    have : cut - (iosW ios).length ≤ 1 := by omega
    exact (List.take_subset_take_left _ this) h2
   simp only [Hy, Ks, Bz] at h4
   subst h4
   exact absurd h3 (by decide)
 have htk : (Em x.sup x.slot ios root size first).take cut = iosW ios ++ ([flushIo, wIo (1 - x.slot) (supB (Mc x.sup root size first)), flushIo]).take (cut - ios.length) := by
  rw [Ml, bB, Ah (by omega), hl]
 unfold eF
 rw [hfl, htk, if_neg (by omega)]
 have hap : Bl l (iosW ios ++ [wIo (1 - x.slot) (supB (Mc x.sup root size first))]) = Bl l (Em x.sup x.slot ios root size first) := by
  have e1 := rO l (iosW ios) [wIo (1 - x.slot) (supB (Mc x.sup root size first)), flushIo] flushIo (by decide)
  have e2 := rO l (iosW ios ++ [wIo (1 - x.slot) (supB (Mc x.sup root size first))]) [] flushIo (by decide)
  rw [Cd, Bw] at e2
  rw [Ml, e1, ← e2]; rfl
 rcases (by omega : cut = ios.length + 2 ∨ cut = ios.length + 3) with rfl | rfl
 ·rw [if_pos (by omega), show ios.length + 2 - ios.length = 2 by omega]
  show (_ ∧ ∀ a, reached l x a → blk (Bl l (Hv ios.length keep (iosW ios ++ [flushIo, wIo (1 - x.slot) (supB (Mc x.sup root size first))]) 0 0)) a = blk l a) ∨ (_ ∧ Bl l (Hv ios.length keep (iosW ios ++ [flushIo, wIo (1 - x.slot) (supB (Mc x.sup root size first))]) 0 0) = _)
  rw [Xf _ _ 0 0 (fA ios) (by omega), hl, Ch]
  have e : Hv ios.length keep [flushIo, wIo (1 - x.slot) (supB (Mc x.sup root size first))] ios.length 0 = if keep.getD 0 false = true then [wIo (1 - x.slot) (supB (Mc x.sup root size first))] else [] := by
   simp only [Hv]
   rw [if_pos (by decide), if_neg (fun h => h rfl), if_neg (by omega)]
  rw [e]
  by_cases hk : keep.getD 0 false = true
  ·rw [if_pos hk]
   exact .inr ⟨by omega, hap⟩
  ·rw [if_neg hk, Bw]
   exact .inl ⟨by omega, hkeep _ fun y hy => hy⟩
 ·rw [if_neg (by omega), show ios.length + 3 - ios.length = 3 by omega]
  right
  refine ⟨by omega, ?_⟩
  show Bl l (Hv (ios.length + 2) keep (iosW ios ++ [flushIo, wIo (1 - x.slot) (supB (Mc x.sup root size first)), flushIo]) 0 0) = _
  rw [Xf _ _ 0 0 (fA ios) (by omega), hl, Ch]
  have e : Hv (ios.length + 2) keep [flushIo, wIo (1 - x.slot) (supB (Mc x.sup root size first)), flushIo] ios.length 0 = [wIo (1 - x.slot) (supB (Mc x.sup root size first))] := by
   simp only [Hv]
   rw [if_pos (by decide), if_neg (fun h => h rfl), if_pos (by omega), if_pos (by decide)]
  rw [e]; exact hap
end
structure Opd (l : List UInt8) (ios : List IoV) (x x' : Img) : Prop where
 dev : Dev l
 img : IsImg l x
 img' : IsImg (Bl l ios) x'
 len : (Bl l ios).length = l.length
 right : Fl l ios = 0
 steps : ∃ (io0 : List IoV) (root size first : Nat), ios = Em x.sup x.slot io0 root size first ∧ Frees l x io0
theorem Aat {l : List UInt8} {x x' : Img} {n k m : Nat} {first : Rec} {wth : Bool} {ios : List IoV} (hd : Dev l) (hI : IsImg l x) (hmk : Mz l x n first wth = .ok ios) (hm : Made l (Bl l ios) x x' k m) : Opd l ios x x' := by
 have hx := La hd hI
 refine ⟨hd, hI, hm.img, hm.len, Ajs hd hx hmk, ?_⟩
 unfold Mz at hmk
 split at hmk
 ·cases hmk
 split at hmk
 ·cases hmk
 cases hmk
 exact ⟨_, _, _, _, rfl, Xc fun a ha => (Vj hd hx).1 ha⟩
theorem Ami {l : List UInt8} (hl : l.length < 1000000) {id : Int} {ios : List IoV} (h : Gx l id = .ok ios) : ∃ x x', Opd l ios x x' := by
 obtain ⟨x, x', hd, hI, hc, hmk, hm, _⟩ := iY hl h
 exact ⟨x, x', Aat hd hI hmk hm⟩
theorem Opd.states {l : List UInt8} {ios : List IoV} {x x' : Img} (h : Opd l ios x x') : Od l ios = .ok [Cv l x, Cv (Bl l ios) x'] := by
 obtain ⟨io0, root, size, first, hio, hF⟩ := h.steps
 have hfl : Bx ios = [io0.length, io0.length + 2] := by
  have := Sq (s := x.sup) (slot := x.slot) (ios := io0) (root := root) (size := size) (first := first) (io0.length + 3) (Au _)
  rw [Ah (by rw [Pl]; omega), ← hio] at this
  rw [this, if_neg (by omega), if_neg (by omega)]
 unfold Od
 rw [if_neg (fun hh => hh h.right), (Fk h.dev.1).2 ⟨h.dev, h.img⟩, hfl]
 simp only [Ni]
 rw [if_pos (by decide), if_neg (by decide)]
 have hal : (ios.drop 0).take (io0.length + 2 + 1 - 0) = ios := by
  rw [Bv, Nl, Ah]
  rw [hio, Pl]; omega
 have hl' : (Bl l ios).length < 1000000 := by rw [h.len]; exact h.dev.1
 rw [hal, (Fk hl').2 ⟨Pk h.dev h.len, h.img'⟩]
 rfl
theorem Opd.crash {l : List UInt8} {ios : List IoV} {x x' : Img} (h : Opd l ios x x') {cut : Nat} (keep : List Bool) (hc : cut ≤ ios.length) :
  (Ea l ios cut keep).length = l.length ∧ ∃ xc, Ff (Ea l ios cut keep) = .ok xc ∧ ((Cv (Ea l ios cut keep) xc = Cv l x ∧ (Bx (ios.take cut)).length / 2 = 0) ∨ (Cv (Ea l ios cut keep) xc = Cv (Bl l ios) x' ∧ (Bx (ios.take cut)).length / 2 ≤ 1 ∧ xc = x' ∧ Ea l ios cut keep = Bl l ios)) := by
 obtain ⟨io0, root, size, first, hio, hF⟩ := h.steps
 have hl' : (Bl l ios).length < 1000000 := by rw [h.len]; exact h.dev.1
 have hcl : cut ≤ io0.length + 3 := by rw [hio, Pl] at hc; exact hc
 have hlen : (Ea l ios cut keep).length = l.length := jC fun y hy => Nu ((Mt h.right).2 y hy)
 have hfl := Sq (s := x.sup) (slot := x.slot) (ios := io0) (root := root) (size := size) (first := first) cut hcl
 rw [← hio] at hfl
 refine ⟨hlen, ?_⟩
 rcases Ajn (s := x.sup) (slot := x.slot) (ios := io0) (root := root) (size := size) (first := first) (keep := keep) h.dev h.img hF rfl rfl hcl with ⟨h1, h2⟩ | ⟨h1, h2⟩
 ·rw [← hio] at h2
  have hi := Aud h.img hlen h2
  refine ⟨x, (Fk (by rw [hlen]; exact h.dev.1)).2 ⟨Pk h.dev hlen, hi⟩, .inl ⟨Amw h.img h2, ?_⟩⟩
  rw [hfl]
  by_cases h3 : cut ≤ io0.length
  ·rw [if_pos h3]; rfl
  ·rw [if_neg h3, if_pos h1]; simp
 ·rw [← hio] at h2
  rw [h2]
  refine ⟨x', (Fk hl').2 ⟨Pk h.dev h.len, h.img'⟩, .inr ⟨rfl, ?_, rfl, rfl⟩⟩
  rw [hfl]
  split
  ·simp
  ·split <;> simp
end Go.Proofs.YtkaiiopoilpjeaaGreat
set_option maxRecDepth 10000
set_option maxHeartbeats 16000000
namespace Go.Proofs.YtkaiiopoilpjeaaGreat
open Go.AI
theorem Nt (w : ViewV) : ∃ (f2 f3 : Bool) (s2 s3 : Nat), w.av = .agg [.islc false false 1 (w.head.map Et), .islc false f2 s2 (w.snaps.map SnapV.av), .islc false f3 s3 (w.opens.map SnapV.av)] := by
 obtain ⟨f2, s2, h2, _⟩ := Hw w.snaps
 obtain ⟨f3, s3, h3, _⟩ := Hw w.opens
 exact ⟨f2, f3, s2, s3, by unfold ViewV.av ViewV.cs Qs; rw [h2, h3]⟩
attribute [local irreducible] aops Bo Cn Dh aop W WO
theorem Adq (k : Nat) (hk : 1000500 ≤ k) (f : Bool) (l : List UInt8) (hl : l.length < 1000000) (t' f' : Bool) (ios : List IoV) (hil : ios.length < 100000) (hio : ∀ x ∈ ios, x.s = 1 ∨ x.data = []) (cut : Nat) (hcut : cut ≤ ios.length) (t3 f3 : Bool) (s3 : Nat) (keep : List Bool) (hs3 : s3 = 1 ∨ keep = []) (hkl : keep.length < 100000) (commits : Nat) (hcm : commits < 100000)
  {vs : List ViewV} (hvs : Od l ios = .ok vs) (hvl : vs.length = commits + 1) (hvo : ∀ w ∈ vs, w.ok) (hst : Fl l ios = 0) {xc : Img} (hxc : Ff (Ea l ios cut keep) = .ok xc)
  (hd : vs[(Bx (ios.take cut)).length / 2]? = some (Cv (Ea l ios cut keep) xc) ∨ vs[(Bx (ios.take cut)).length / 2 + 1]? = some (Cv (Ea l ios cut keep) xc)) :
  FnV (CF k) So [.islc false f 1 (BL l), .islc t' f' 3 (ios.map IoV.av), .int .i64 cut, .islc t3 f3 s3 (keep.map AV.bool), .int .i64 commits] (.bool true) := by
 obtain ⟨k, rfl⟩ : ∃ j, k = j + 3 := ⟨k - 3, by omega⟩
 have pS := xH (k + 2) (by omega) f l hl t' f' ios hil hio
 have pA := kX (k + 2) (by omega) false f l hl t' f' 3 ios (.inl rfl) hil hio cut t3 f3 s3 keep hs3 hkl
 have pC := uB (k + 2) (by omega) false f l hl t' f' 3 ios (.inl rfl) hil hio cut t3 f3 s3 keep hs3 hkl
 have hclen : (Ea l ios cut keep).length = l.length := jC fun y hy => Nu ((Mt hst).2 y hy)
 have pF := kP (k + 2) (by omega) false (Ea l ios cut keep) (by rw [hclen]; exact hl)
 obtain ⟨hdx, hxf⟩ := Qx (by rw [hclen]; exact hl) hxc
 have hwo := Ns hdx hxf
 rw [hvs] at pS
 unfold stAv at pS
 unfold kL at pA
 unfold eX at pC
 unfold Xj at pF
 rw [if_neg (fun h => h hst), if_neg (by omega), As] at pA pC
 rw [hxc] at pA pF
 unfold Rv at pA
 simp only at pA pS pF
 obtain ⟨w, hw⟩ : ∃ w, w = Cv (Ea l ios cut keep) xc := ⟨_, rfl⟩
 rw [← hw] at pA hd hwo
 obtain ⟨g2, g3, r2, r3, hwa⟩ := Nt w
 have pA' : FnV (CF (k + 2)) Xt [.islc false f 1 (BL l), .islc t' f' 3 (ios.map IoV.av), .int .i64 cut, .islc t3 f3 s3 (keep.map AV.bool)] (.tup [.agg [.islc false false 1 (w.head.map Et), .islc false g2 r2 (w.snaps.map SnapV.av), .islc false g3 r3 (w.opens.map SnapV.av)], .int .i64 0]) := by
  rw [← hwa]; exact pA
 have hml : (ios.map IoV.av).length = ios.length := Ag _
 have hvm : (vs.map ViewV.av).length = vs.length := Ag _
 have hsl : ((ios.map IoV.av).drop 0).take (cut - 0) = (ios.take cut).map IoV.av := by rw [Bv, Nl, Ez]
 have pL := fN (k + 2) (by omega) t' (f' && decide (cut = ios.length)) 3 (ios.take cut) (.inl rfl) (by rw [Ba]; omega)
 obtain ⟨F, hF⟩ : ∃ F, F = Bx (ios.take cut) := ⟨_, rfl⟩
 have hFl : F.length ≤ cut := by rw [hF]; exact Gq (Td _) (by rw [Ba]; omega)
 rw [← hF] at pL hd
 have hfn : (NL F).length = F.length := Bm F
 have hfz : ∀ H : Heap, [AV.islc t' (f' && decide (cut = ios.length)) 3 (((ios.map IoV.av).drop 0).take (cut - 0))].map (fz false 6 H) = [.islc t' (f' && decide (cut = ios.length)) 3 ((ios.take cut).map IoV.av)] := fun H => by rw [hsl]; rfl
 obtain ⟨d, hdd⟩ : ∃ d, d = F.length / 2 := ⟨_, rfl⟩
 rw [← hdd] at hd
 have hdl : d < vs.length := by
  rcases hd with h | h
  ·exact (Cu.1 h).1
  ·have := (Cu.1 h).1; omega
 have hdd' : (F.length : Int) / 2 = (d : Int) := by omega
 generalize hcp : Ea l ios cut keep = lc at *
 refine fnk (by omega) Aaj rfl ?_
 rw [show k + 3 - 1 = k + 2 from rfl]
 unfold cG
 repeat' (first
  | refine qS ?_ | refine qN ?_ | refine Aa pS ?_ | refine Aa pA' ?_ | refine Aa pC ?_ | refine Aa pF ?_ | refine Fp ?_ (hl := by kernel_rfl)
  | refine Ak (n := vs.length) rfl hvm rfl rfl ?_ | refine Cg (n := ios.length) (a := 0) (b := cut) rfl (.inl rfl) hml rfl (Dt rfl) (by omega) hcut rfl rfl ?_
  | refine Aa pL ?_ rfl (by exact hfz _) | refine Ak (n := F.length) rfl hfn rfl rfl ?_ | (rw [hdd']) | refine qQ ?_ | fail)
 refine Ka ?_
 refine mV ?_
 obtain ⟨u, hu⟩ : ∃ u, u = vs[d] := ⟨_, rfl⟩
 have hum : u ∈ vs := by rw [hu]; exact Bs hdl
 obtain ⟨a2, a3, b2, b3, hua⟩ := Nt u
 have he1 : (vs.map ViewV.av)[(d : Int).toNat]? = some (.agg [.islc false false 1 (u.head.map Et), .islc false a2 b2 (u.snaps.map SnapV.av), .islc false a3 b3 (u.opens.map SnapV.av)]) := by
  rw [As, Az, Ab hdl, ← hu, ← hua]; rfl
 have hV1 := xN (k + 2) (by omega) w u hwo (hvo u hum)
 rw [hwa, hua] at hV1
 by_cases hwu : w = u
 ·rw [Aq hwu] at hV1
  repeat' (first | refine qS ?_ | refine qN ?_ | refine Ak (n := vs.length) rfl hvm rfl rfl ?_ | refine Ce rfl rfl (by omega) he1 rfl rfl ?_ | refine Aa hV1 ?_ | refine qQa ?_ | fail)
  exact ⟨Or.inr rfl, _, rfl, rfl⟩
 rw [Ay hwu] at hV1
 have hd2 : vs[d + 1]? = some w := hd.resolve_left fun h => by
  rw [Ab hdl, ← hu] at h
  exact hwu (eR h).symm
 have hdl2 : d + 1 < vs.length := (Cu.1 hd2).1
 have he2 : (vs.map ViewV.av)[((d : Int) + 1).toNat]? = some (.agg [.islc false false 1 (w.head.map Et), .islc false g2 r2 (w.snaps.map SnapV.av), .islc false g3 r3 (w.opens.map SnapV.av)]) := by
  rw [show ((d : Int) + 1).toNat = d + 1 by omega, Az, hd2, ← hwa]; rfl
 have hV2 := xN (k + 2) (by omega) w w hwo hwo
 rw [Aq rfl, hwa] at hV2
 repeat' (first | refine qS ?_ | refine qN ?_ | refine Ak (n := vs.length) rfl hvm rfl rfl ?_ | refine Ce rfl rfl (by omega) he1 rfl rfl ?_ | refine Aa hV1 ?_ | refine qQa ?_ | fail)
 refine mV ?_
 repeat' (first | refine qS ?_ | refine qN ?_ | refine Ak (n := vs.length) rfl hvm rfl rfl ?_ | refine Ce rfl rfl (by omega) he2 rfl rfl ?_ | refine Aa hV2 ?_ | refine qQa ?_ | fail)
 exact ⟨Or.inr rfl, _, rfl, rfl⟩
def wk27 : Bool :=
 (match Ff (Ea wk0 wkA 4 []) with | .ok x => Nat.beq (Cv (Ea wk0 wkA 4 []) x).snaps.length 1 | .error _ => false) &&
 (match Ff (Ea wk0 wkA 3 []) with | .ok x => Nat.beq (Cv (Ea wk0 wkA 3 []) x).snaps.length 0 | .error _ => false) &&
 (match Od wk0 wkA with | .ok [_, b] => Nat.beq b.snaps.length 1 | _ => false) && Nat.beq ((Bx wkA).length / 2) 1
theorem Ask : wk27 = true := by kernel_rfl
theorem fL (k : Nat) (hk : 1000500 ≤ k) : FnV (CF k) gK [] (.bool true) := by
 have h := Ade
 have h27 := Ask
 unfold wk27 at h27
 unfold wkOk at h
 simp only [Co] at h h27
 obtain ⟨⟨⟨⟨⟨⟨h1, h2⟩, h3⟩, _⟩, _⟩, _⟩, _⟩ := h
 obtain ⟨⟨⟨d1, d2⟩, d3⟩, d4⟩ := h27
 have hl0 : wk0.length < 1000000 := by
  show (newP 16).length < _
  unfold newP
  rw [An, Yz]; simp
 have c1 : Gx wk0 5 = .ok wkA := by
  unfold wkA
  cases hc : Gx wk0 5 with
  | ok a => rfl
  | error e => rw [hc] at h1; cases h1
 have c2 : wkA.length = 4 := Cx h2
 have c3 : Fl wk0 wkA = 0 := Cx h3
 have ha := Ve hl0 c1
 obtain ⟨w1, e1, f1⟩ : ∃ w : ViewV, Rv (Ea wk0 wkA 4 []) (Ff (Ea wk0 wkA 4 [])) = .tup [w.av, .int .i64 0] ∧ w.snaps.length = 1 := by
  cases hc : Ff (Ea wk0 wkA 4 []) with
  | error e => rw [hc] at d1; cases d1
  | ok x => rw [hc] at d1; exact ⟨_, rfl, Cx d1⟩
 obtain ⟨w2, e2, f2⟩ : ∃ w : ViewV, Rv (Ea wk0 wkA 3 []) (Ff (Ea wk0 wkA 3 [])) = .tup [w.av, .int .i64 0] ∧ w.snaps.length = 0 := by
  cases hc : Ff (Ea wk0 wkA 3 []) with
  | error e => rw [hc] at d2; cases d2
  | ok x => rw [hc] at d2; exact ⟨_, rfl, Cx d2⟩
 obtain ⟨w3, w4, e3, f3⟩ : ∃ w w' : ViewV, Od wk0 wkA = .ok [w, w'] ∧ w'.snaps.length = 1 := by
  cases hc : Od wk0 wkA with
  | error e => rw [hc] at d3; cases d3
  | ok vs =>
   rw [hc] at d3
   match vs, d3 with
   | [a, b], d3 => exact ⟨a, b, rfl, Cx d3⟩
 have f4 : (Bx wkA).length / 2 = 1 := Cx d4
 have hN : FnV (CF (k - 1)) aI [.int .i64 16] (.tup [.islc false false 1 (BL wk0), .int .i64 0]) := Bao (k - 1) (by omega) 16 (by decide)
 have hC0 : FnV (CF (k - 1)) Pb [.islc false false 1 (BL wk0), .int .i64 5] (.tup [.islc false false 3 (wkA.map IoV.av), .int .i64 0]) := by
  have := Ym (k - 1) (by omega) false wk0 hl0 5
  rwa [c1] at this
 have pA1 := kX (k - 1) (by omega) false false wk0 hl0 false false 3 wkA (.inl rfl) ha.1 (fun x hx => (ha.2 x hx).1) (4 : Nat) false true 0 [] (.inr rfl) (by decide)
 have pA2 := kX (k - 1) (by omega) false false wk0 hl0 false false 3 wkA (.inl rfl) ha.1 (fun x hx => (ha.2 x hx).1) (3 : Nat) false true 0 [] (.inr rfl) (by decide)
 have pS := xH (k - 1) (by omega) false wk0 hl0 false false wkA ha.1 (fun x hx => (ha.2 x hx).1)
 have pC := Acc (k - 1) (by omega) false false 3 wkA (.inl rfl) ha.1
 rw [f4] at pC
 rw [e3] at pS
 unfold kL at pA1 pA2
 rw [if_neg (fun h => h c3), if_neg (by rw [c2]; omega), As] at pA1 pA2
 rw [e1] at pA1
 rw [e2] at pA2
 unfold stAv at pS
 simp only at pS
 obtain ⟨p2, p3, q2, q3, hw1⟩ := Nt w1
 obtain ⟨r2, r3, s2, s3, hw2⟩ := Nt w2
 obtain ⟨t2, t3, u2, u3, hw4⟩ := Nt w4
 rw [hw1] at pA1
 rw [hw2] at pA2
 have hla : (wkA.map IoV.av).length = 4 := by simpa using c2
 have g1 : (w1.snaps.map SnapV.av).length = 1 := by simpa using f1
 have g2 : (w2.snaps.map SnapV.av).length = 0 := by simpa using f2
 have g4 : (w4.snaps.map SnapV.av).length = 1 := by simpa using f3
 have hel : ([w3, w4].map ViewV.av)[(1 : Int).toNat]? = some (.agg [.islc false false 1 (w4.head.map Et), .islc false t2 u2 (w4.snaps.map SnapV.av), .islc false t3 u3 (w4.opens.map SnapV.av)]) := by
  rw [← hw4]; rfl
 generalize wkA = a at *
 generalize wk0 = l0 at *
 refine fnk (by omega) zZ rfl ?_
 unfold dO
 repeat' (first
  | refine qS ?_ | refine qN ?_ | refine Aa hN ?_ | refine Aa hC0 ?_ | refine Aa pA1 ?_ | refine Aa pA2 ?_ | refine Aa pS ?_ | refine Aa pC ?_
  | refine Fp ?_ (hl := by kernel_rfl) | refine Ak (n := 4) rfl hla rfl rfl ?_ | refine Ak (n := 1) rfl g1 rfl rfl ?_ | refine Ak (n := 0) rfl g2 rfl rfl ?_
  | refine Ak (n := 1) rfl g4 rfl rfl ?_ | refine Ak (n := 2) rfl rfl rfl rfl ?_ | refine Ce rfl rfl (by decide) hel rfl rfl ?_ | refine qQba ?_ | fail)
 exact ⟨Or.inr rfl, _, rfl, rfl⟩
theorem modN (cut : Int) (n : Nat) (hn : 0 < n) : ∃ c : Nat, cut % 18446744073709551616 % (n : Int) = (c : Int) ∧ c < n := by
 have h1 := Int.emod_lt_of_pos (cut % 18446744073709551616) (show (0 : Int) < (n : Int) by omega)
 have h2 := Int.emod_nonneg (cut % 18446744073709551616) (show (n : Int) ≠ 0 by omega)
 exact ⟨(cut % 18446744073709551616 % (n : Int)).toNat, by omega, by omega⟩
theorem Asi (k : Nat) (hk : 1000500 ≤ k) (f : Bool) {l : List UInt8} {ios : List IoV} {x x' : Img} (h : Opd l ios x x') (hok : IosOk ios) (t' f' : Bool) (cut : Nat) (hcut : cut ≤ ios.length) (t3 f3 : Bool) (s3 : Nat) (keep : List Bool) (hs3 : s3 = 1 ∨ keep = []) (hkl : keep.length < 100000) :
  FnV (CF k) So [.islc false f 1 (BL l), .islc t' f' 3 (ios.map IoV.av), .int .i64 cut, .islc t3 f3 s3 (keep.map AV.bool), .int .i64 1] (.bool true) := by
 obtain ⟨hlen, xc, hxc, hv⟩ := h.crash keep hcut
 have hx := La h.dev h.img
 have hx' := La (Pk h.dev h.len) h.img'
 refine Adq k hk f l h.dev.1 t' f' ios hok.1 (fun y hy => (hok.2 y hy).1) cut hcut t3 f3 s3 keep hs3 hkl 1 (by decide) h.states rfl ?_ h.right hxc ?_
 ·intro w hw
  simp only [Ar, Kh, bT] at hw
  rcases hw with rfl | rfl
  ·exact Ns h.dev hx
  ·exact Ns (Pk h.dev h.len) hx'
 ·rcases hv with ⟨h1, h2⟩ | ⟨h1, h2, _⟩
  ·rw [h1, h2]; exact .inl rfl
  ·rw [h1]
   rcases (by omega : (Bx (ios.take cut)).length / 2 = 0 ∨ (Bx (ios.take cut)).length / 2 = 1) with h3 | h3
   ·rw [h3]; exact .inr rfl
   ·rw [h3]; exact .inl rfl
end Go.Proofs.YtkaiiopoilpjeaaGreat
