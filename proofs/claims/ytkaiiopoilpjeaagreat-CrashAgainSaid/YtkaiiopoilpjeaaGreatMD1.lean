/- Lemmas. -/
import Derived.Test.YtkaiiopoilpjeaaGreatMJ4
import Derived.Test.YtkaiiopoilpjeaaGreatMM
import Derived.Test.YtkaiiopoilpjeaaGreatA30
import Derived.Test.YtkaiiopoilpjeaaGreatMS
set_option linter.unusedSimpArgs false
set_option linter.unusedVariables false
set_option maxRecDepth 10000
set_option maxHeartbeats 16000000
namespace Go.Proofs.YtkaiiopoilpjeaaGreat
open Go.AI
def Lj (n : Nat) (x : IoV) : Prop := x.kind = 1 ∧ x.at0 < n ∧ x.data.length = 64 ∨ x.kind = 2 ∧ x.at0 = 0 ∧ x.data.length = 0
instance (n : Nat) (x : IoV) : Decidable (Lj n x) := by unfold Lj; infer_instance
def Fl (l : List UInt8) (ios : List IoV) : Nat := if ¬ devB l.length then 2 else if (ios.any fun x => !decide (Lj (nb l) x)) = true then 1 else 0
attribute [local irreducible] aops Bo Cn Dh aop W WO
theorem Aze (k : Nat) (hk : 1 ≤ k) (x : IoV) (n : Nat) : FnV (CF k) rY [x.av, .int .i64 n] (.bool (decide (Lj n x))) := by
 obtain ⟨kd, a, d, t, f, s⟩ := x
 have hl : (BL d).length = d.length := by simp
 refine fnk (by omega) Ajc rfl ?_
 unfold oF IoV.av Lj
 simp only
 repeat' (first | refine qS ?_ | refine qN ?_ | refine Ak (n := d.length) rfl hl rfl rfl ?_ | refine qQb ?_ | refine Ac (fun _ => ?_) (fun _ => ?_))
 all_goals
  refine ⟨Or.inr rfl, _, rfl, ?_⟩
  first
   | exact Bp AV.bool (Aq (by simp only [cmpP] at *; omega)).symm
   | exact Bp AV.bool (Ay (by simp only [cmpP] at *; omega)).symm
   | (exfalso; simp only [cmpP] at *; omega)
theorem Aup (k : Nat) (hk : 2 ≤ k) (x : IoV) (n : Nat) : FnV (CF k) Ss [x.av, .iptr true [.int .i64 n]] (.bool (!decide (Lj n x))) := by
 have hr := Aze (k - 1) (by omega) x n
 obtain ⟨kd, a, d, t, f, s⟩ := x
 unfold IoV.av at hr ⊢
 refine fnk (by omega) Aae rfl ?_
 unfold eC
 simp only at hr ⊢
 cases h : decide (Lj n ⟨kd, a, d, t, f, s⟩) with
 | true =>
  rw [h] at hr
  repeat' (first | refine qS ?_ | refine Aa hr ?_ | refine qQb ?_ | fail)
  exact ⟨Or.inr rfl, _, rfl, rfl⟩
 | false =>
  rw [h] at hr
  repeat' (first | refine qS ?_ | refine Aa hr ?_ | refine qQb ?_ | fail)
  exact ⟨Or.inr rfl, _, rfl, rfl⟩
theorem eN (k : Nat) (hk : 1000030 ≤ k) (t f : Bool) (l : List UInt8) (hl : l.length < 1000000) (t' f' : Bool) (s' : Nat) (ios : List IoV) (hs : s' = 3 ∨ ios = []) (hil : ios.length < 100000) : FnV (CF k) qT [.islc t f 1 (BL l), .islc t' f' s' (ios.map IoV.av)] (.int .i64 (Fl l ios)) := by
 have hck := cH (k - 1) (by omega) t f 1 l hl
 have hml : (ios.map IoV.av).length = ios.length := Ag _
 refine fnk (by omega) Ahw rfl ?_
 unfold nK Fl
 by_cases hd : devB l.length
 rotate_left 1
 ·rw [if_neg hd] at hck
  rw [if_pos hd]
  repeat' (first | refine Am (hck) (fun _ => ?_) (fun _ => ?_) | refine Aa (hck) ?_ | refine qQb ?_ | refine Ac (fun _ => ?_) (fun _ => ?_))
  exact ⟨Or.inr rfl, _, rfl, rfl⟩
 rw [if_pos hd] at hck
 rw [if_neg (fun h => h hd)]
 have hck : FnV (CF (k - 1)) Ww [.islc t f 1 (BL l)] (.tup [.int .i64 (nb l : Nat), .int .i64 0]) := hck
 have hcf : FnV (CF (k - 1)) Dq [.islc t' f' s' (ios.map IoV.av), .fn Ss [.iptr true [.int .i64 (nb l : Nat)]]] (.bool (ios.any fun x => !decide (Lj (nb l) x))) := by
  by_cases hn : ios = []
  ·subst hn
   exact Yx (k - 1) (by omega) t' f' s' _ _ (fun _ => rfl)
  ·obtain rfl : s' = 3 := hs.resolve_right hn
   exact bE (k - 1) (by omega) t' f' ios Ss [.iptr true [.int .i64 (nb l : Nat)]] (fun x => !decide (Lj (nb l) x)) (by omega) (fun _ => rfl) (fun _ _ => rfl) (fun i hi => Aup (k - 3) (by omega) _ _)
 cases ha : ios.any fun x => !decide (Lj (nb l) x) with
 | true =>
  rw [ha] at hcf
  rw [if_pos rfl]
  repeat' (first
   | refine qS ?_ | refine Ak (n := ios.length) rfl hml rfl rfl ?_ | refine Aa hcf ?_ | refine Am (hck) (fun _ => ?_) (fun _ => ?_) | refine Aa (hck) ?_ | refine qQb ?_
   | refine Ac (fun _ => ?_) (fun _ => ?_))
  exact ⟨Or.inr rfl, _, rfl, rfl⟩
 | false =>
  rw [ha] at hcf
  rw [if_neg (by decide)]
  repeat' (first
   | refine qS ?_ | refine Ak (n := ios.length) rfl hml rfl rfl ?_ | refine Aa hcf ?_ | refine Am (hck) (fun _ => ?_) (fun _ => ?_) | refine Aa (hck) ?_ | refine qQb ?_
   | refine Ac (fun _ => ?_) (fun _ => ?_))
  exact ⟨Or.inr rfl, _, rfl, rfl⟩
end Go.Proofs.YtkaiiopoilpjeaaGreat
set_option maxRecDepth 10000
set_option maxHeartbeats 16000000
namespace Go.AI
section
variable {cf : Dp} {xf : ExtF} {base : Nat} {T : Tmps} {H : Heap} {QO : Tmps → Heap → Prop} {log : List FP} {g : Option (Nat × Bool)} {un : List Nat} {r : List SOper} {d : Nat} {t f : Bool}
theorem Ave {j gn v off len s s' : Nat} {cap : Option Nat} {x y : SArg} {m es : List AV} (hx : x.ev T = .slc j gn v s off len cap) (hy : y.ev T = .islc t f s' m) (hs : s' = s ∨ m = []) (hn : Cb m = true) (hr : H j = ⟨gn, false, .row s es⟩) (hv : es.length = v) (ho : off + len ≤ v) (hm : m.length ≤ len)
  (hw : Al T g = some true) (hl : Br log ⟨[j], [j], false⟩ un = true)
  (h : WO (aops cf xf base r (log ++ [⟨[j], [j], false⟩]) (T.upd d (.int .i64 m.length)) (H.upd j ⟨gn, false, .row s (es.take off ++ m ++ es.drop (off + m.length))⟩)) QO) : WO (aops cf xf base (⟨some d, .copy s x y, g, un⟩ :: r) log T H) QO :=
 Bk (v := .int .i64 m.length) (H' := H.upd j ⟨gn, false, .row s (es.take off ++ m ++ es.drop (off + m.length))⟩) (fp := ⟨[j], [j], false⟩) hw (by
  have hs2 : Im m = true ∨ s' = s := by
   rcases hs with h | h
   ·exact .inr h
   ·subst h; exact .inl rfl
  simp only [aop, yL, hy, Cy, hs2, if_true, Ae, Ad, hx, hn, Jm, Bb, Cp, Kl hr hv, true_and]
  rw [if_pos ho, Vc hm, Ca, He hr]) hl h
end
end Go.AI
namespace Go.Proofs.YtkaiiopoilpjeaaGreat
open Go.AI
attribute [local irreducible] aops Bo Cn Dh aop W WO
theorem Abi (k : Nat) (hk : 1 ≤ k) (l : List UInt8) (a j g v base : Nat) (hl : l.length = v) (hl2 : v < 1000000) (ha : 64 * (a + 1) ≤ v) (H : Heap) {ro : Bool} (hr : H j = ⟨g, ro, .row 1 (BL l)⟩) :
  CF k Wd base [.slc j g v 1 0 v none, .int .i64 a] H = some (.slc j g v 1 (64 * a) 64 none, H) := by
 have h : ∃ u H', CF k Wd base [.slc j g v 1 0 v none, .int .i64 a] H = some (u, H') ∧ (u = .slc j g v 1 (64 * a) 64 none ∧ H' = H) := by
  refine fni (by omega) Akd rfl ?_
  unfold Agj
  have e1 : ((a : Int) * 64) = ((64 * a : Nat) : Int) := by omega
  have e2 : (((a : Int) + 1) * 64) = ((64 * a + 64 : Nat) : Int) := by omega
  have e3 : 64 * a + 64 - 64 * a = 64 := by omega
  have hbl : (BL l).length = v := by simpa using hl
  repeat' (first
   | refine qS ?_ | (rw [e1]) | (rw [e2])
   | refine Vb (a := 64 * a) (b := 64 * a + 64) rfl (by exact hr) hbl (Dt rfl) (Dt rfl) (by omega) (by show _ ≤ v - 0; omega) (by show 0 + (v - 0) ≤ v; omega) rfl rfl ?_
   | refine qQb ?_ | fail)
  refine ⟨Or.inr rfl, .slc j g v 1 (0 + 64 * a) (64 * a + 64 - 64 * a) none, rfl, ?_, rfl⟩
  rw [Ch, e3]
 obtain ⟨u, H', h1, rfl, rfl⟩ := h
 exact h1
def Pf (l : List UInt8) (ios : List IoV) : AV := if Fl l ios ≠ 0 then .tup [.islc false true 0 [], .int .i64 (Fl l ios)] else .tup [.islc false false 1 (BL (Bl l ios)), .int .i64 0]
theorem Mt {l : List UInt8} {ios : List IoV} (h : Fl l ios = 0) : devB l.length ∧ ∀ x ∈ ios, Lj (nb l) x := by
 unfold Fl at h
 split at h
 ·cases h
 ·rename_i hd
  split at h
  ·cases h
  ·rename_i ha
   refine ⟨Df.1 hd, fun x hx => ?_⟩
   have := tA _ ▸ ha
   rw [Yc] at this
   have := this x hx
   simpa using this
theorem Nu {n : Nat} {x : IoV} (h : Lj n x) : Ada n x := by
 intro hk
 rcases h with h | h
 ·exact ⟨h.2.1, h.2.2⟩
 ·omega
theorem Ani {k : Nat} {l : List UInt8} {ios : List IoV} {t' f' : Bool} {s' v : Nat} {T : Tmps} {H : Heap} (hk : 1000000 ≤ k) (hv : l.length = v) (hl : v < 1000000) (hil : ios.length < 100000) (hs : s' = 3 ∨ ios = []) (hok : ∀ x ∈ ios, Lj (nb l) x ∧ (x.s = 1 ∨ x.data = []))
  (h0 : H 0 = ⟨1, false, .row 1 (BL l)⟩)
  (hT : Has T [(7, .slc 0 1 v 1 0 v none), (18, .islc t' f' s' (ios.map IoV.av)), (19, .int .i64 ios.length), (20, .int .i64 0)]) :
  W (Bo (CF k) noX 0 k (.loop mE) T H) (fun ex T' H' => ex = .exit 0 ∧ H' 0 = ⟨1, false, .row 1 (BL (Bl l ios))⟩ ∧ T' 7 = .slc 0 1 v 1 0 v none) := by
 refine Fc ios.length (fun i T' H' => H' 0 = ⟨1, false, .row 1 (BL (Bl l (ios.take i)))⟩ ∧ Has T' [(7, .slc 0 1 v 1 0 v none), (18, .islc t' f' s' (ios.map IoV.av)), (19, .int .i64 ios.length), (20, .int .i64 (i : Nat))]) ⟨h0, hT⟩ (by omega) ?_
 rintro i T H hi ⟨g0, hT⟩
 have hlen : (Bl l (ios.take i)).length = v := by rw [Lh _ _ (fun x hx => Nu (hok x (Bi hx)).1)]; exact hv
 rw [hT.eq]
 simp only [over]
 unfold mE
 by_cases hlt : i < ios.length
 ·obtain rfl : s' = 3 := hs.resolve_right (fun h => by rw [h] at hlt; simp at hlt)
  obtain ⟨⟨kd, a, d, t, f, s⟩, hx⟩ : ∃ x, x = ios[i] := ⟨_, rfl⟩
  have hxo := hok ios[i] (Bs hlt)
  rw [← hx] at hxo
  have he2 : (ios.map IoV.av)[(i : Int).toNat]? = some (.agg [.int .i64 kd, .int .i64 a, .islc t f s (BL d)]) := by
   rw [As, Az, Ab hlt, ← hx]; rfl
  have hst : Bl l (ios.take (i + 1)) = if kd = 1 then wr (Bl l (ios.take i)) a d else Bl l (ios.take i) := by
   rw [Ax hlt, ← hx, Sp]; rfl
  rw [hst]
  generalize Bl l (ios.take i) = m at *
  obtain ⟨hr, hsd⟩ := hxo
  simp only at hsd
  by_cases hkd : kd = 1
  ·have hkd' : (kd : Int) = 1 := by omega
   rw [if_pos hkd]
   have hra : a < nb l ∧ d.length = 64 := by
    rcases hr with h | h
    ·exact ⟨h.2.1, h.2.2⟩
    ·have := h.1; simp only at this; omega
   have hle : 64 * (a + 1) ≤ v := by have := hra.1; unfold nb at this; omega
   have hsd1 : s = 1 := hsd.resolve_right (fun h => by have := hra.2; rw [h] at this; simp at this)
   subst hsd1
   have hof : ∀ H : Heap, H 0 = ⟨1, false, .row 1 (BL m)⟩ → CF k Wd (0 + 2) (.slc 0 1 v 1 0 v none :: [.int .i64 a]) (Ud H 0 1 (BL m)) = some (.slc 0 1 v 1 (64 * a) 64 none, Ud H 0 1 (BL m)) := fun H h => Abi k (by omega) m a 0 1 v 2 hlen hl hle _ (by rw [Mq, h])
   have hrw : ∀ H : Heap, H 0 = ⟨1, false, .row 1 (BL m)⟩ → ((Ud H 0 1 (BL m)).row 0 1 v 1).isSome = true := fun H h => Ny.2 ⟨BL m, row_some.2 ⟨by rw [Mq, h], by rw [Mq], by simpa using hlen⟩⟩
   have hbm : (BL m).length = v := by simpa using hlen
   have hbd : (BL d).length = 64 := by simpa using hra.2
   repeat' (first
    | refine qS ?_ | refine Ce rfl rfl (by omega) he2 rfl rfl ?_
    | refine Agd (j := 0) (s' := 1) (es := BL m) rfl (by exact Bp Blk.st g0) rfl (Ir m) (hof _ (by exact g0)) (hrw _ (by exact g0)) rfl (by kernel_rfl) ?_
    | refine Vp (m := BL d) (es := BL m) rfl rfl (.inl rfl) (Ir d) (by exact g0) hbm (by omega) hbd rfl (by kernel_rfl) ?_ | refine Fp (hl := by kernel_rfl) ?_
    | refine Ci ?_ (hr := by rfl) | refine Bd ?_ (hr := by rfl) (hl := by kernel_rfl) | refine qQba ?_ | refine Ac (fun _ => ?_) (fun _ => ?_))
   refine ⟨hlt, ?_, rfl, rfl, rfl, by show AV.int _ _ = AV.int _ _; congr 1, trivial⟩
   show (⟨1, false, .row 1 ((BL m).take (64 * a) ++ BL d ++ (BL m).drop (64 * a + 64))⟩ : Blk) = _
   unfold wr
   rw [show 64 * (a + 1) = 64 * a + 64 by omega]
   simp [BL]
  ·have hkd' : (kd : Int) ≠ 1 := by omega
   rw [if_neg hkd]
   repeat' (first
    | refine qS ?_ | refine Ce rfl rfl (by omega) he2 rfl rfl ?_ | refine Fp (hl := by kernel_rfl) ?_ | refine Ci ?_ (hr := by rfl)
    | refine Bd ?_ (hr := by rfl) (hl := by kernel_rfl) | refine qQba ?_ | refine Ac (fun _ => ?_) (fun _ => ?_))
   exact ⟨hlt, g0, rfl, rfl, rfl, by show AV.int _ _ = AV.int _ _; congr 1, trivial⟩
 ·have hin : i = ios.length := by omega
  subst hin
  rw [Ca] at g0
  repeat' (first | refine qQb ?_ | refine Ac (fun _ => ?_) (fun _ => ?_))
  exact ⟨rfl, g0, rfl⟩
theorem Up (k : Nat) (hk : 1000050 ≤ k) (t f : Bool) (l : List UInt8) (hl : l.length < 1000000) (t' f' : Bool) (s' : Nat) (ios : List IoV) (hs : s' = 3 ∨ ios = []) (hil : ios.length < 100000) (hio : ∀ x ∈ ios, x.s = 1 ∨ x.data = []) :
  FnV (CF k) Ws [.islc t f 1 (BL l), .islc t' f' s' (ios.map IoV.av)] (Pf l ios) := by
 have hst := eN (k - 1) (by omega) t f l hl t' f' s' ios hs hil
 have hml : (ios.map IoV.av).length = ios.length := Ag _
 refine fnk (by omega) Ala rfl ?_
 unfold dev_Apply Pf
 by_cases he : Fl l ios = 0
 ·rw [if_neg (fun h => h he)]
  obtain ⟨hd, hok⟩ := Mt he
  rw [he] at hst
  have hne : BL l ≠ [] := by
   intro h
   have : l.length = 0 := by have := Bp List.length h; simpa using this
   unfold devB at hd; omega
  have hcl := yJ (k - 1) (by omega) t f (BL l) hne (Ir l) (fun H => Ajp true 5 H l) (by simpa using hl)
  have hbl : (BL l).length = l.length := by simp
  repeat' (first
   | refine qS ?_ | refine Ob hcl hbl rfl rfl rfl ?_ | refine Ak (n := ios.length) rfl hml rfl rfl ?_ | refine Am (hst) (fun _ => ?_) (fun _ => ?_) | refine Aa (hst) ?_
   | refine qQb ?_ | refine Ac (fun _ => ?_) (fun _ => ?_))
  refine W.mono (Ani (k := k - 1) (l := l) (ios := ios) (t' := t') (f' := f') (s' := s') (v := l.length) (by omega) rfl hl hil hs (fun x hx => ⟨hok x hx, hio x hx⟩) rfl ⟨rfl, rfl, rfl, rfl, trivial⟩) ?_
  rintro ex T2 H2 ⟨rfl, g0, h7⟩
  rw [Has.eq (T := T2) (ps := [(7, _)]) ⟨h7, trivial⟩]
  simp only [over]
  show W _ _
  repeat' (first | refine qQb ?_ | refine Ac (fun _ => ?_) (fun _ => ?_))
  refine ⟨Or.inr rfl, .tup [.slc 0 1 l.length 1 0 l.length none, .int .i64 0], rfl, ?_⟩
  show AV.tup [fz true (3 + 2) H2 (.slc 0 1 l.length 1 0 l.length none), _] = _
  have hal : (Bl l ios).length = l.length := Lh _ _ (fun x hx => Nu (hok x hx))
  rw [tV (Fh g0 (by simpa using hal)) (by omega), Bv, Ah (by omega)]; rfl
 ·rw [if_pos he]
  have he' : (Fl l ios : Int) ≠ 0 := by omega
  repeat' (first | refine Am (hst) (fun _ => ?_) (fun _ => ?_) | refine Aa (hst) ?_ | refine qQb ?_ | refine Ac (fun _ => ?_) (fun _ => ?_))
  exact ⟨Or.inr rfl, _, rfl, rfl⟩
def newP (n : Nat) : List UInt8 := supB ⟨1, n, 0, 0, 0⟩ ++ List.replicate (64 * n - 64) 0
theorem Bao (k : Nat) (hk : 1000050 ≤ k) (n : Nat) (hn : 4 ≤ n ∧ n ≤ 4096) : FnV (CF k) aI [.int .i64 n] (.tup [.islc false false 1 (BL (newP n)), .int .i64 0]) := by
 have hsb := gQ (k - 1) (by omega) ⟨1, n, 0, 0, 0⟩ (by simp only; omega)
 rw [if_pos (show Sup.ok ⟨1, n, 0, 0, 0⟩ from ⟨⟨by simp only; omega, by simp only; omega⟩, ⟨hn.1, hn.2⟩, by simp only; omega, .inl rfl, .inl rfl⟩)] at hsb
 have hbl : (BL (supB ⟨1, n, 0, 0, 0⟩)).length = 64 := by simp; rfl
 unfold Sup.av at hsb
 simp only at hsb
 refine fnk (by omega) Ann rfl ?_
 unfold yI
 have hrl : (List.replicate (64 * n) (AV.int .u8 0)).length = 64 * n := by simp
 have hnr : Cb (BL (supB ⟨1, n, 0, 0, 0⟩)) = true := Ir _
 repeat' (first
  | refine qS ?_ | refine qN ?_ | refine Wp (64 * n) rfl rfl (by push_cast; omega) (by omega) rfl rfl rfl ?_
  | refine Ld (cs := [.int .i64 1, .int .i64 n, .int .i64 0, .int .i64 0, .int .i64 0]) ?_ (hc := by kernel_rfl)
  | refine Ave (m := BL (supB ⟨1, n, 0, 0, 0⟩)) (es := List.replicate (64 * n) (AV.int .u8 0)) rfl rfl (.inl rfl) hnr rfl hrl (by omega) (by omega) rfl (by kernel_rfl) ?_
  | refine Am (hsb) (fun _ => ?_) (fun _ => ?_) | refine Aa (hsb) ?_ | refine qQb ?_ | refine Ac (fun _ => ?_) (fun _ => ?_))
 refine ⟨Or.inr rfl, .tup [.slc 0 1 (64 * n) 1 0 (64 * n) none, .int .i64 0], rfl, ?_⟩
 have hrow : (List.replicate (64 * n) (AV.int .u8 0)).take 0 ++ BL (supB ⟨1, n, 0, 0, 0⟩) ++ (List.replicate (64 * n) (AV.int .u8 0)).drop (0 + (BL (supB ⟨1, n, 0, 0, 0⟩)).length) = BL (newP n) := by
  rw [Ks, Db, hbl, List.drop_replicate]
  unfold newP
  rw [show ∀ a b : List UInt8, BL (a ++ b) = BL a ++ BL b from fun _ _ => Bn, Ch]
  congr 1
  unfold BL
  rw [Ix]; rfl
 have hlen : (newP n).length = 64 * n := by
  unfold newP
  rw [An, Yz, Ih]; omega
 have hr := Bp (fun x => (⟨1, false, .row 1 x⟩ : Blk)) hrow
 refine Bp (fun x => AV.tup [x, .int .i64 0]) (a₁ := fz true (3 + 2) _ (.slc 0 1 (64 * n) 1 0 (64 * n) none)) ?_
 exact Agc (l := newP n) hr hlen
end Go.Proofs.YtkaiiopoilpjeaaGreat
set_option maxRecDepth 10000
set_option maxHeartbeats 16000000
namespace Go.Proofs.YtkaiiopoilpjeaaGreat
open Go.AI
attribute [local irreducible] aops Bo Cn Dh aop W WO
theorem Azp (k : Nat) (hk : 1000001 ≤ k) (t f t' f' : Bool) (s s' : Nat) (a b : List UInt8) (ha : a.length < 1000000) (hb : b.length < 1000000) (hs : s = 1 ∨ a = []) (hs' : s' = 1 ∨ b = []) :
  FnV (CF k) Zx [.islc t f s (BL a), .islc t' f' s' (BL b)] (.bool (decide (a = b))) := by
 obtain ⟨k, rfl⟩ : ∃ j, k = j + 1 := ⟨k - 1, by omega⟩
 exact Aea k (by omega) t f t' f' s s' a b ha hb hs hs'
theorem uL {k : Nat} {H : Heap} {T : Tmps} {t f t' f' : Bool} {a : List Nat} (ha : a.length < 1000000) (hk : 1000000 ≤ k)
  (hT : Has T [(0, .islc t f 1 (NL a)), (1, .islc t' f' 1 (NL a)), (5, .int .i64 0)]) :
  W (Bo (CF k) noX 0 k (.loop nI) T H) (fun ex T' H' => ex = .exit 0 ∧ H' = H) := by
 refine Fc a.length (fun i T' H' => H' = H ∧ Has T' [(0, .islc t f 1 (NL a)), (1, .islc t' f' 1 (NL a)), (5, .int .i64 (i : Nat))]) ⟨rfl, hT⟩ (by omega) ?_
 rintro i T H2 hi ⟨rfl, hT⟩
 rw [hT.eq]
 simp only [over]
 unfold nI
 have hml : (NL a).length = a.length := Bm a
 by_cases hlt : i < a.length
 ·have he2 : (NL a)[(i : Int).toNat]? = some (.int .i64 (a[i] : Nat)) := by
   rw [As]; unfold NL; rw [Az, Ab hlt]; rfl
  repeat' (first | refine qS ?_ | refine Ak (n := a.length) rfl hml rfl rfl ?_ | refine Ce rfl rfl (by omega) he2 rfl rfl ?_ | refine qQba ?_ | refine Ac (fun _ => ?_) (fun _ => ?_))
  exact ⟨hlt, rfl, rfl, rfl, by show AV.int _ _ = AV.int _ _; congr 1, trivial⟩
 ·skip
  repeat' (first | refine qS ?_ | refine Ak (n := a.length) rfl hml rfl rfl ?_ | refine qQba ?_ | refine Ac (fun _ => ?_) (fun _ => ?_))
  exact ⟨rfl, rfl⟩
theorem Bbt (k : Nat) (hk : 1000001 ≤ k) (t f t' f' : Bool) (a : List Nat) (ha : a.length < 1000000) : FnV (CF k) rU [.islc t f 1 (NL a), .islc t' f' 1 (NL a)] (.bool true) := by
 refine fnk (by omega) Ahi rfl ?_
 unfold keep_Ints
 have hml : (NL a).length = a.length := Bm a
 repeat' (first | refine qS ?_ | refine Ak (n := a.length) rfl hml rfl rfl ?_ | refine qQb ?_ | refine Ac (fun _ => ?_) (fun _ => ?_))
 refine W.mono (uL (k := k - 1) (a := a) (t := t) (f := f) (t' := t') (f' := f') ha (by omega) ⟨rfl, rfl, rfl, trivial⟩) ?_
 rintro ex T2 H2 ⟨rfl, rfl⟩
 show W _ _
 repeat' (first | refine qQb ?_ | refine Ac (fun _ => ?_) (fun _ => ?_))
 exact ⟨Or.inr rfl, _, rfl, rfl⟩
theorem Zd (k : Nat) (hk : 100 ≤ k) (t f : Bool) (l : List UInt8) : FnV (CF k) gY [.islc t f 1 (BL l), .islc false true 0 []] (.bool (decide (l.length > 19200))) := by
 obtain ⟨k, rfl⟩ : ∃ j, k = j + 2 := ⟨k - 2, by omega⟩
 refine fnk (by omega) zT rfl ?_
 rw [show k + 2 - 1 = k + 1 from rfl]
 unfold dB
 have hml : (BL l).length = l.length := by simp
 by_cases hl : l.length > 19200
 ·rw [Aq hl]
  repeat' (first | refine qS ?_ | refine qN ?_ | refine Ak (n := l.length) rfl hml rfl rfl ?_ | refine Ak (n := 0) rfl rfl rfl rfl ?_ | refine qQb ?_ | refine Ac (fun _ => ?_) (fun _ => ?_))
  all_goals exact ⟨Or.inr rfl, _, rfl, rfl⟩
 ·rw [Ay hl]
  repeat' (first | refine qS ?_ | refine qN ?_ | refine Ak (n := l.length) rfl hml rfl rfl ?_ | refine Ak (n := 0) rfl rfl rfl rfl ?_ | refine qQb ?_ | refine Ac (fun _ => ?_) (fun _ => ?_))
  refine Ka ?_
  refine mV ?_
  repeat' (first | refine qS ?_ | refine qN ?_ | refine Ak (n := 0) rfl rfl rfl rfl ?_ | refine qQb ?_ | refine Ac (fun _ => ?_) (fun _ => ?_))
  exact ⟨Or.inr rfl, _, rfl, rfl⟩
end Go.Proofs.YtkaiiopoilpjeaaGreat
