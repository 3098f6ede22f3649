/- Lemmas. -/
import Derived.Test.YtkaiiopoilpjeaaMJ4
import Derived.Test.YtkaiiopoilpjeaaMM
import Derived.Test.YtkaiiopoilpjeaaA30
import Derived.Test.YtkaiiopoilpjeaaMS
set_option linter.unusedSimpArgs false
set_option linter.unusedVariables false
set_option maxRecDepth 10000
set_option maxHeartbeats 16000000
namespace Go.Proofs.Ytkaiiopoilpjeaa
open Go.AI
def Lt (n : Nat) (x : IoV) : Prop := x.kind = 1 ∧ x.at0 < n ∧ x.data.length = 64 ∨ x.kind = 2 ∧ x.at0 = 0 ∧ x.data.length = 0
instance (n : Nat) (x : IoV) : Decidable (Lt n x) := by unfold Lt; infer_instance
def Kc (l : List UInt8) (ios : List IoV) : Nat := if ¬ devB l.length then 2 else if (ios.any fun x => !decide (Lt (nb l) x)) = true then 1 else 0
attribute [local irreducible] aops Bb Cj Dm aop W WO
theorem Aet (k : Nat) (hk : 1 ≤ k) (x : IoV) (n : Nat) : FnV (CF k) cZ [x.av, .int .i64 n] (.bool (decide (Lt n x))) := by
 obtain ⟨kd, a, d, t, f, s⟩ := x
 have hl : (BL d).length = d.length := by simp
 refine fnk (by omega) sC rfl ?_
 unfold aK IoV.av Lt
 simp only
 repeat' (first | refine qS ?_ | refine qN ?_ | refine Ba (n := d.length) rfl hl rfl rfl ?_ | refine qQb ?_ | refine Ab (fun _ => ?_) (fun _ => ?_))
 all_goals
  refine ⟨Or.inr rfl, _, rfl, ?_⟩
  first
   | exact Ay AV.bool (Az (by simp only [cmpP] at *; omega)).symm
   | exact Ay AV.bool (Bo (by simp only [cmpP] at *; omega)).symm
   | (exfalso; simp only [cmpP] at *; omega)
theorem Abr (k : Nat) (hk : 2 ≤ k) (x : IoV) (n : Nat) : FnV (CF k) Nd [x.av, .iptr true [.int .i64 n]] (.bool (!decide (Lt n x))) := by
 have hr := Aet (k - 1) (by omega) x n
 obtain ⟨kd, a, d, t, f, s⟩ := x
 unfold IoV.av at hr ⊢
 refine fnk (by omega) jS rfl ?_
 unfold Tz
 simp only at hr ⊢
 cases h : decide (Lt n ⟨kd, a, d, t, f, s⟩) with
 | true =>
  rw [h] at hr
  repeat' (first | refine qS ?_ | refine Ad hr ?_ | refine qQb ?_ | fail)
  exact ⟨Or.inr rfl, _, rfl, rfl⟩
 | false =>
  rw [h] at hr
  repeat' (first | refine qS ?_ | refine Ad hr ?_ | refine qQb ?_ | fail)
  exact ⟨Or.inr rfl, _, rfl, rfl⟩
theorem sR (k : Nat) (hk : 1000030 ≤ k) (t f : Bool) (l : List UInt8) (hl : l.length < 1000000) (t' f' : Bool) (s' : Nat) (ios : List IoV) (hs : s' = 3 ∨ ios = []) (hil : ios.length < 100000) : FnV (CF k) cP [.islc t f 1 (BL l), .islc t' f' s' (ios.map IoV.av)] (.int .i64 (Kc l ios)) := by
 have hck := Tw (k - 1) (by omega) t f 1 l hl
 have hml : (ios.map IoV.av).length = ios.length := Ak _
 refine fnk (by omega) qJ rfl ?_
 unfold bX Kc
 by_cases hd : devB l.length
 rotate_left 1
 ·rw [if_neg hd] at hck
  rw [if_pos hd]
  repeat' (first | refine Ag (hck) (fun _ => ?_) (fun _ => ?_) | refine Ad (hck) ?_ | refine qQb ?_ | refine Ab (fun _ => ?_) (fun _ => ?_))
  exact ⟨Or.inr rfl, _, rfl, rfl⟩
 rw [if_pos hd] at hck
 rw [if_neg (fun h => h hd)]
 have hck : FnV (CF (k - 1)) Pv [.islc t f 1 (BL l)] (.tup [.int .i64 (nb l : Nat), .int .i64 0]) := hck
 have hcf : FnV (CF (k - 1)) Cs [.islc t' f' s' (ios.map IoV.av), .fn Nd [.iptr true [.int .i64 (nb l : Nat)]]] (.bool (ios.any fun x => !decide (Lt (nb l) x))) := by
  by_cases hn : ios = []
  ·subst hn
   exact Qq (k - 1) (by omega) t' f' s' _ _ (fun _ => rfl)
  ·obtain rfl : s' = 3 := hs.resolve_right hn
   exact Sh (k - 1) (by omega) t' f' ios Nd [.iptr true [.int .i64 (nb l : Nat)]] (fun x => !decide (Lt (nb l) x)) (by omega) (fun _ => rfl) (fun _ _ => rfl) (fun i hi => Abr (k - 3) (by omega) _ _)
 cases ha : ios.any fun x => !decide (Lt (nb l) x) with
 | true =>
  rw [ha] at hcf
  rw [if_pos rfl]
  repeat' (first
   | refine qS ?_ | refine Ba (n := ios.length) rfl hml rfl rfl ?_ | refine Ad hcf ?_ | refine Ag (hck) (fun _ => ?_) (fun _ => ?_) | refine Ad (hck) ?_ | refine qQb ?_
   | refine Ab (fun _ => ?_) (fun _ => ?_))
  exact ⟨Or.inr rfl, _, rfl, rfl⟩
 | false =>
  rw [ha] at hcf
  rw [if_neg (by decide)]
  repeat' (first
   | refine qS ?_ | refine Ba (n := ios.length) rfl hml rfl rfl ?_ | refine Ad hcf ?_ | refine Ag (hck) (fun _ => ?_) (fun _ => ?_) | refine Ad (hck) ?_ | refine qQb ?_
   | refine Ab (fun _ => ?_) (fun _ => ?_))
  exact ⟨Or.inr rfl, _, rfl, rfl⟩
end Go.Proofs.Ytkaiiopoilpjeaa
set_option maxRecDepth 10000
set_option maxHeartbeats 16000000
namespace Go.AI
section
variable {cf : Cx} {xf : ExtF} {base : Nat} {T : Tmps} {H : Heap} {QO : Tmps → Heap → Prop} {log : List FP} {g : Option (Nat × Bool)} {un : List Nat} {r : List SOper} {d : Nat} {t f : Bool}
theorem Aaz {j gn v off len s s' : Nat} {cap : Option Nat} {x y : SArg} {m es : List AV} (hx : x.ev T = .slc j gn v s off len cap) (hy : y.ev T = .islc t f s' m) (hs : s' = s ∨ m = []) (hn : Bq m = true) (hr : H j = ⟨gn, false, .row s es⟩) (hv : es.length = v) (ho : off + len ≤ v) (hm : m.length ≤ len)
  (hw : Af T g = some true) (hl : Av log ⟨[j], [j], false⟩ un = true)
  (h : WO (aops cf xf base r (log ++ [⟨[j], [j], false⟩]) (T.upd d (.int .i64 m.length)) (H.upd j ⟨gn, false, .row s (es.take off ++ m ++ es.drop (off + m.length))⟩)) QO) : WO (aops cf xf base (⟨some d, .copy s x y, g, un⟩ :: r) log T H) QO :=
 Aq (v := .int .i64 m.length) (H' := H.upd j ⟨gn, false, .row s (es.take off ++ m ++ es.drop (off + m.length))⟩) (fp := ⟨[j], [j], false⟩) hw (by
  have hs2 : Fz m = true ∨ s' = s := by
   rcases hs with h | h
   ·exact .inr h
   ·subst h; exact .inl rfl
  simp only [aop, kS, hy, Ch, hs2, if_true, Ac, Aa, hx, hn, Jq, Ap, Bx, Ip hr hv, true_and]
  rw [if_pos ho, Hx hm, Bp, Gn hr]) hl h
end
end Go.AI
namespace Go.Proofs.Ytkaiiopoilpjeaa
open Go.AI
attribute [local irreducible] aops Bb Cj Dm aop W WO
theorem zU (k : Nat) (hk : 1 ≤ k) (l : List UInt8) (a j g v base : Nat) (hl : l.length = v) (hl2 : v < 1000000) (ha : 64 * (a + 1) ≤ v) (H : Heap) {ro : Bool} (hr : H j = ⟨g, ro, .row 1 (BL l)⟩) :
  CF k Qy base [.slc j g v 1 0 v none, .int .i64 a] H = some (.slc j g v 1 (64 * a) 64 none, H) := by
 have h : ∃ u H', CF k Qy base [.slc j g v 1 0 v none, .int .i64 a] H = some (u, H') ∧ (u = .slc j g v 1 (64 * a) 64 none ∧ H' = H) := by
  refine fni (by omega) rJ rfl ?_
  unfold oC
  have e1 : ((a : Int) * 64) = ((64 * a : Nat) : Int) := by omega
  have e2 : (((a : Int) + 1) * 64) = ((64 * a + 64 : Nat) : Int) := by omega
  have e3 : 64 * a + 64 - 64 * a = 64 := by omega
  have hbl : (BL l).length = v := by simpa using hl
  repeat' (first
   | refine qS ?_ | (rw [e1]) | (rw [e2])
   | refine Ju (a := 64 * a) (b := 64 * a + 64) rfl (by exact hr) hbl (Kz rfl) (Kz rfl) (by omega) (by show _ ≤ v - 0; omega) (by show 0 + (v - 0) ≤ v; omega) rfl rfl ?_
   | refine qQb ?_ | fail)
  refine ⟨Or.inr rfl, .slc j g v 1 (0 + 64 * a) (64 * a + 64 - 64 * a) none, rfl, ?_, rfl⟩
  rw [Da, e3]
 obtain ⟨u, H', h1, rfl, rfl⟩ := h
 exact h1
def Zq (l : List UInt8) (ios : List IoV) : AV := if Kc l ios ≠ 0 then .tup [.islc false true 0 [], .int .i64 (Kc l ios)] else .tup [.islc false false 1 (BL (Cn l ios)), .int .i64 0]
theorem lW {l : List UInt8} {ios : List IoV} (h : Kc l ios = 0) : devB l.length ∧ ∀ x ∈ ios, Lt (nb l) x := by
 unfold Kc at h
 split at h
 ·cases h
 ·rename_i hd
  split at h
  ·cases h
  ·rename_i ha
   refine ⟨Cw.1 hd, fun x hx => ?_⟩
   have := dP _ ▸ ha
   rw [List.any_eq_false] at this
   have := this x hx
   simpa using this
theorem Xl {n : Nat} {x : IoV} (h : Lt n x) : qY n x := by
 intro hk
 rcases h with h | h
 ·exact ⟨h.2.1, h.2.2⟩
 ·omega
theorem uX {k : Nat} {l : List UInt8} {ios : List IoV} {t' f' : Bool} {s' v : Nat} {T : Tmps} {H : Heap} (hk : 1000000 ≤ k) (hv : l.length = v) (hl : v < 1000000) (hil : ios.length < 100000) (hs : s' = 3 ∨ ios = []) (hok : ∀ x ∈ ios, Lt (nb l) x ∧ (x.s = 1 ∨ x.data = []))
  (h0 : H 0 = ⟨1, false, .row 1 (BL l)⟩)
  (hT : Has T [(7, .slc 0 1 v 1 0 v none), (18, .islc t' f' s' (ios.map IoV.av)), (19, .int .i64 ios.length), (20, .int .i64 0)]) :
  W (Bb (CF k) noX 0 k (.loop Zu) T H) (fun ex T' H' => ex = .exit 0 ∧ H' 0 = ⟨1, false, .row 1 (BL (Cn l ios))⟩ ∧ T' 7 = .slc 0 1 v 1 0 v none) := by
 refine Fx ios.length (fun i T' H' => H' 0 = ⟨1, false, .row 1 (BL (Cn l (ios.take i)))⟩ ∧ Has T' [(7, .slc 0 1 v 1 0 v none), (18, .islc t' f' s' (ios.map IoV.av)), (19, .int .i64 ios.length), (20, .int .i64 (i : Nat))]) ⟨h0, hT⟩ (by omega) ?_
 rintro i T H hi ⟨g0, hT⟩
 have hlen : (Cn l (ios.take i)).length = v := by rw [Ks _ _ (fun x hx => Xl (hok x (Hn hx)).1)]; exact hv
 rw [hT.eq]
 simp only [over]
 unfold Zu
 by_cases hlt : i < ios.length
 ·obtain rfl : s' = 3 := hs.resolve_right (fun h => by rw [h] at hlt; simp at hlt)
  obtain ⟨⟨kd, a, d, t, f, s⟩, hx⟩ : ∃ x, x = ios[i] := ⟨_, rfl⟩
  have hxo := hok ios[i] (Bz hlt)
  rw [← hx] at hxo
  have he2 : (ios.map IoV.av)[(i : Int).toNat]? = some (.agg [.int .i64 kd, .int .i64 a, .islc t f s (BL d)]) := by
   rw [Bd, Cd, Ai hlt, ← hx]; rfl
  have hst : Cn l (ios.take (i + 1)) = if kd = 1 then wr (Cn l (ios.take i)) a d else Cn l (ios.take i) := by
   rw [Bh hlt, ← hx, Wg]; rfl
  rw [hst]
  generalize Cn l (ios.take i) = m at *
  obtain ⟨hr, hsd⟩ := hxo
  simp only at hsd
  by_cases hkd : kd = 1
  ·have hkd' : (kd : Int) = 1 := by omega
   rw [if_pos hkd]
   have hra : a < nb l ∧ d.length = 64 := by
    rcases hr with h | h
    ·exact ⟨h.2.1, h.2.2⟩
    ·have := h.1; simp only at this; omega
   have hle : 64 * (a + 1) ≤ v := by have := hra.1; unfold nb at this; omega
   have hsd1 : s = 1 := hsd.resolve_right (fun h => by have := hra.2; rw [h] at this; simp at this)
   subst hsd1
   have hof : ∀ H : Heap, H 0 = ⟨1, false, .row 1 (BL m)⟩ → CF k Qy (0 + 2) (.slc 0 1 v 1 0 v none :: [.int .i64 a]) (Qz H 0 1 (BL m)) = some (.slc 0 1 v 1 (64 * a) 64 none, Qz H 0 1 (BL m)) := fun H h => zU k (by omega) m a 0 1 v 2 hlen hl hle _ (by rw [Md, h])
   have hrw : ∀ H : Heap, H 0 = ⟨1, false, .row 1 (BL m)⟩ → ((Qz H 0 1 (BL m)).row 0 1 v 1).isSome = true := fun H h => Ol.2 ⟨BL m, row_some.2 ⟨by rw [Md, h], by rw [Md], by simpa using hlen⟩⟩
   have hbm : (BL m).length = v := by simpa using hlen
   have hbd : (BL d).length = 64 := by simpa using hra.2
   repeat' (first
    | refine qS ?_ | refine Dv rfl rfl (by omega) he2 rfl rfl ?_
    | refine Aek (j := 0) (s' := 1) (es := BL m) rfl (by exact Ay Blk.st g0) rfl (Js m) (hof _ (by exact g0)) (hrw _ (by exact g0)) rfl (by kernel_rfl) ?_
    | refine Zd (m := BL d) (es := BL m) rfl rfl (.inl rfl) (Js d) (by exact g0) hbm (by omega) hbd rfl (by kernel_rfl) ?_ | refine Iz (hl := by kernel_rfl) ?_
    | refine Cr ?_ (hr := by rfl) | refine Bj ?_ (hr := by rfl) (hl := by kernel_rfl) | refine qQba ?_ | refine Ab (fun _ => ?_) (fun _ => ?_))
   refine ⟨hlt, ?_, rfl, rfl, rfl, by show AV.int _ _ = AV.int _ _; congr 1, trivial⟩
   show (⟨1, false, .row 1 ((BL m).take (64 * a) ++ BL d ++ (BL m).drop (64 * a + 64))⟩ : Blk) = _
   unfold wr
   rw [show 64 * (a + 1) = 64 * a + 64 by omega]
   simp [BL]
  ·have hkd' : (kd : Int) ≠ 1 := by omega
   rw [if_neg hkd]
   repeat' (first
    | refine qS ?_ | refine Dv rfl rfl (by omega) he2 rfl rfl ?_ | refine Iz (hl := by kernel_rfl) ?_ | refine Cr ?_ (hr := by rfl)
    | refine Bj ?_ (hr := by rfl) (hl := by kernel_rfl) | refine qQba ?_ | refine Ab (fun _ => ?_) (fun _ => ?_))
   exact ⟨hlt, g0, rfl, rfl, rfl, by show AV.int _ _ = AV.int _ _; congr 1, trivial⟩
 ·have hin : i = ios.length := by omega
  subst hin
  rw [Bp] at g0
  repeat' (first | refine qQb ?_ | refine Ab (fun _ => ?_) (fun _ => ?_))
  exact ⟨rfl, g0, rfl⟩
theorem oK (k : Nat) (hk : 1000050 ≤ k) (t f : Bool) (l : List UInt8) (hl : l.length < 1000000) (t' f' : Bool) (s' : Nat) (ios : List IoV) (hs : s' = 3 ∨ ios = []) (hil : ios.length < 100000) (hio : ∀ x ∈ ios, x.s = 1 ∨ x.data = []) :
  FnV (CF k) Tb [.islc t f 1 (BL l), .islc t' f' s' (ios.map IoV.av)] (Zq l ios) := by
 have hst := sR (k - 1) (by omega) t f l hl t' f' s' ios hs hil
 have hml : (ios.map IoV.av).length = ios.length := Ak _
 refine fnk (by omega) rW rfl ?_
 unfold dev_Apply Zq
 by_cases he : Kc l ios = 0
 ·rw [if_neg (fun h => h he)]
  obtain ⟨hd, hok⟩ := lW he
  rw [he] at hst
  have hne : BL l ≠ [] := by
   intro h
   have : l.length = 0 := by have := Ay List.length h; simpa using this
   unfold devB at hd; omega
  have hcl := rP (k - 1) (by omega) t f (BL l) hne (Js l) (fun H => Adl true 5 H l) (by simpa using hl)
  have hbl : (BL l).length = l.length := by simp
  repeat' (first
   | refine qS ?_ | refine aB hcl hbl rfl rfl rfl ?_ | refine Ba (n := ios.length) rfl hml rfl rfl ?_ | refine Ag (hst) (fun _ => ?_) (fun _ => ?_) | refine Ad (hst) ?_
   | refine qQb ?_ | refine Ab (fun _ => ?_) (fun _ => ?_))
  refine W.mono (uX (k := k - 1) (l := l) (ios := ios) (t' := t') (f' := f') (s' := s') (v := l.length) (by omega) rfl hl hil hs (fun x hx => ⟨hok x hx, hio x hx⟩) rfl ⟨rfl, rfl, rfl, rfl, trivial⟩) ?_
  rintro ex T2 H2 ⟨rfl, g0, h7⟩
  rw [Has.eq (T := T2) (ps := [(7, _)]) ⟨h7, trivial⟩]
  simp only [over]
  show W _ _
  repeat' (first | refine qQb ?_ | refine Ab (fun _ => ?_) (fun _ => ?_))
  refine ⟨Or.inr rfl, .tup [.slc 0 1 l.length 1 0 l.length none, .int .i64 0], rfl, ?_⟩
  show AV.tup [fz true (3 + 2) H2 (.slc 0 1 l.length 1 0 l.length none), _] = _
  have hal : (Cn l ios).length = l.length := Ks _ _ (fun x hx => Xl (hok x hx))
  rw [mR (Ek g0 (by simpa using hal)) (by omega), Cc, Aj (by omega)]; rfl
 ·rw [if_pos he]
  have he' : (Kc l ios : Int) ≠ 0 := by omega
  repeat' (first | refine Ag (hst) (fun _ => ?_) (fun _ => ?_) | refine Ad (hst) ?_ | refine qQb ?_ | refine Ab (fun _ => ?_) (fun _ => ?_))
  exact ⟨Or.inr rfl, _, rfl, rfl⟩
def newP (n : Nat) : List UInt8 := supB ⟨1, n, 0, 0, 0⟩ ++ List.replicate (64 * n - 64) 0
theorem Afy (k : Nat) (hk : 1000050 ≤ k) (n : Nat) (hn : 4 ≤ n ∧ n ≤ 4096) : FnV (CF k) Xa [.int .i64 n] (.tup [.islc false false 1 (BL (newP n)), .int .i64 0]) := by
 have hsb := Wn (k - 1) (by omega) ⟨1, n, 0, 0, 0⟩ (by simp only; omega)
 rw [if_pos (show Sup.ok ⟨1, n, 0, 0, 0⟩ from ⟨⟨by simp only; omega, by simp only; omega⟩, ⟨hn.1, hn.2⟩, by simp only; omega, .inl rfl, .inl rfl⟩)] at hsb
 have hbl : (BL (supB ⟨1, n, 0, 0, 0⟩)).length = 64 := by simp; rfl
 unfold Sup.av at hsb
 simp only at hsb
 refine fnk (by omega) tS rfl ?_
 unfold iF
 have hrl : (List.replicate (64 * n) (AV.int .u8 0)).length = 64 * n := by simp
 have hnr : Bq (BL (supB ⟨1, n, 0, 0, 0⟩)) = true := Js _
 repeat' (first
  | refine qS ?_ | refine qN ?_ | refine Pr (64 * n) rfl rfl (by push_cast; omega) (by omega) rfl rfl rfl ?_
  | refine Ic (cs := [.int .i64 1, .int .i64 n, .int .i64 0, .int .i64 0, .int .i64 0]) ?_ (hc := by kernel_rfl)
  | refine Aaz (m := BL (supB ⟨1, n, 0, 0, 0⟩)) (es := List.replicate (64 * n) (AV.int .u8 0)) rfl rfl (.inl rfl) hnr rfl hrl (by omega) (by omega) rfl (by kernel_rfl) ?_
  | refine Ag (hsb) (fun _ => ?_) (fun _ => ?_) | refine Ad (hsb) ?_ | refine qQb ?_ | refine Ab (fun _ => ?_) (fun _ => ?_))
 refine ⟨Or.inr rfl, .tup [.slc 0 1 (64 * n) 1 0 (64 * n) none, .int .i64 0], rfl, ?_⟩
 have hrow : (List.replicate (64 * n) (AV.int .u8 0)).take 0 ++ BL (supB ⟨1, n, 0, 0, 0⟩) ++ (List.replicate (64 * n) (AV.int .u8 0)).drop (0 + (BL (supB ⟨1, n, 0, 0, 0⟩)).length) = BL (newP n) := by
  rw [Ix, Dk, hbl, List.drop_replicate]
  unfold newP
  rw [show ∀ a b : List UInt8, BL (a ++ b) = BL a ++ BL b from fun _ _ => Br, Da]
  congr 1
  unfold BL
  rw [Hg]; rfl
 have hlen : (newP n).length = 64 * n := by
  unfold newP
  rw [Ar, Ki, Ev]; omega
 have hr := Ay (fun x => (⟨1, false, .row 1 x⟩ : Blk)) hrow
 refine Ay (fun x => AV.tup [x, .int .i64 0]) (a₁ := fz true (3 + 2) _ (.slc 0 1 (64 * n) 1 0 (64 * n) none)) ?_
 exact uP (l := newP n) hr hlen
end Go.Proofs.Ytkaiiopoilpjeaa
set_option maxRecDepth 10000
set_option maxHeartbeats 16000000
namespace Go.Proofs.Ytkaiiopoilpjeaa
open Go.AI
attribute [local irreducible] aops Bb Cj Dm aop W WO
theorem eN {k : Nat} {H : Heap} {T : Tmps} {t f t' f' : Bool} {a : List Nat} (ha : a.length < 1000000) (hk : 1000000 ≤ k)
  (hT : Has T [(0, .islc t f 1 (NL a)), (1, .islc t' f' 1 (NL a)), (5, .int .i64 0)]) :
  W (Bb (CF k) noX 0 k (.loop Zh) T H) (fun ex T' H' => ex = .exit 0 ∧ H' = H) := by
 refine Fx a.length (fun i T' H' => H' = H ∧ Has T' [(0, .islc t f 1 (NL a)), (1, .islc t' f' 1 (NL a)), (5, .int .i64 (i : Nat))]) ⟨rfl, hT⟩ (by omega) ?_
 rintro i T H2 hi ⟨rfl, hT⟩
 rw [hT.eq]
 simp only [over]
 unfold Zh
 have hml : (NL a).length = a.length := Be a
 by_cases hlt : i < a.length
 ·have he2 : (NL a)[(i : Int).toNat]? = some (.int .i64 (a[i] : Nat)) := by
   rw [Bd]; unfold NL; rw [Cd, Ai hlt]; rfl
  repeat' (first | refine qS ?_ | refine Ba (n := a.length) rfl hml rfl rfl ?_ | refine Dv rfl rfl (by omega) he2 rfl rfl ?_ | refine qQba ?_ | refine Ab (fun _ => ?_) (fun _ => ?_))
  exact ⟨hlt, rfl, rfl, rfl, by show AV.int _ _ = AV.int _ _; congr 1, trivial⟩
 ·skip
  repeat' (first | refine qS ?_ | refine Ba (n := a.length) rfl hml rfl rfl ?_ | refine qQba ?_ | refine Ab (fun _ => ?_) (fun _ => ?_))
  exact ⟨rfl, rfl⟩
theorem nV (k : Nat) (hk : 1000001 ≤ k) (t f t' f' : Bool) (a : List Nat) (ha : a.length < 1000000) : FnV (CF k) Tr [.islc t f 1 (NL a), .islc t' f' 1 (NL a)] (.bool true) := by
 refine fnk (by omega) qA rfl ?_
 unfold keep_Ints
 have hml : (NL a).length = a.length := Be a
 repeat' (first | refine qS ?_ | refine Ba (n := a.length) rfl hml rfl rfl ?_ | refine qQb ?_ | refine Ab (fun _ => ?_) (fun _ => ?_))
 refine W.mono (eN (k := k - 1) (a := a) (t := t) (f := f) (t' := t') (f' := f') ha (by omega) ⟨rfl, rfl, rfl, trivial⟩) ?_
 rintro ex T2 H2 ⟨rfl, rfl⟩
 show W _ _
 repeat' (first | refine qQb ?_ | refine Ab (fun _ => ?_) (fun _ => ?_))
 exact ⟨Or.inr rfl, _, rfl, rfl⟩
end Go.Proofs.Ytkaiiopoilpjeaa
