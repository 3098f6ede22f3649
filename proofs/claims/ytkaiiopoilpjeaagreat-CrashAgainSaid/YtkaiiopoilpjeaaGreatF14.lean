import Derived.Test.YtkaiiopoilpjeaaGreatMF
set_option linter.unusedSimpArgs false
set_option linter.unusedVariables false
set_option maxRecDepth 10000
namespace Go.Proofs.YtkaiiopoilpjeaaGreat
open Go.AI
theorem qV {l : List UInt8} {ios : List IoV} (hd : devB l.length) (h : ∀ x ∈ ios, Lj (nb l) x) : Fl l ios = 0 := by
 unfold Fl
 rw [if_neg (fun hh => hh hd), if_neg]
 intro hh
 obtain ⟨x, hx, hxe⟩ := Fe.1 hh
 rw [Aq (h x hx)] at hxe
 cases hxe
theorem Aie (l : List UInt8) (ios : List IoV) (keep : List Bool) : Ea l ios 0 keep = l := by
 unfold Ea; rw [Ks]; rfl
theorem xO {safe : Nat} {keep : List Bool} (b : List IoV) : ∀ (a : List IoV) (i o : Nat) (m : List UInt8), (∀ j, ∀ h : j < a.length, a[j].kind = 1 → i + j < safe) → Hx safe keep (a ++ b) i o m = Hx safe keep b (i + a.length) o (Bl m a)
 | [], i, o, m, _ => rfl
 | x :: a, i, o, m, h => by
  have h0 := h 0 (by simp)
  have ih := fun o m => xO (safe := safe) (keep := keep) b a (i + 1) o m fun j hj hk => by
   have := h (j + 1) (by simp only [Ap]; omega) (by simpa using hk); omega
  have e : ∀ m, Hx safe keep b (i + 1 + a.length) o m = Hx safe keep b (i + (x :: a).length) o m := fun m => by rw [Ap, show i + 1 + a.length = i + (a.length + 1) by omega]
  show (if x.kind ≠ 1 then Hx safe keep (a ++ b) (i + 1) o m else if i < safe then Hx safe keep (a ++ b) (i + 1) o (wr m x.at0 x.data) else _) = Hx safe keep b (i + (x :: a).length) o (Bl (if x.kind = 1 then wr m x.at0 x.data else m) a)
  by_cases hk : x.kind = 1
  ·have := h0 (by simpa using hk)
   rw [if_neg (fun hh => hh hk), if_pos (by omega), if_pos hk, ih, e]
  ·rw [if_pos hk, if_neg hk, ih, e]
theorem lE {s1 s2 N : Nat} {keep : List Bool} : ∀ (b : List IoV) (i o : Nat) (m : List UInt8), (∀ j, i ≤ j → j < i + b.length → (j + N < s1 ↔ j < s2)) → Hx s1 keep b (i + N) o m = Hx s2 keep b i o m
 | [], _, _, _, _ => rfl
 | x :: b, i, o, m, h => by
  have ih := fun o m => lE (s1 := s1) (s2 := s2) (N := N) (keep := keep) b (i + 1) o m fun j h1 h2 => h j (by omega) (by simp only [Ap]; omega)
  rw [show i + 1 + N = i + N + 1 by omega] at ih
  have h0 := h i (Au _) (by simp only [Ap]; omega)
  unfold Hx
  by_cases hk : x.kind ≠ 1
  ·rw [if_pos hk, if_pos hk, ih]
  ·rw [if_neg hk, if_neg hk]
   by_cases h1 : i < s2
   ·rw [if_pos h1, if_pos (h0.2 h1), ih]
   ·rw [if_neg h1, if_neg (fun h => h1 (h0.1 h)), ih, ih]
theorem kZ : ∀ (b : List IoV) (i N : Nat), Kf b (i + N) = (Kf b i).map (· + N)
 | [], _, _ => rfl
 | x :: b, i, N => by
  have ih := kZ b (i + 1) N
  rw [show i + 1 + N = i + N + 1 by omega] at ih
  unfold Kf
  rw [ih, Bn]
  congr 1
  split <;> rfl
theorem Opd.shape {l : List UInt8} {ios : List IoV} {x x' : Img} (h : Opd l ios x x') : ∃ n, ios.length = n + 3 ∧ Bx ios = [n, n + 2] ∧ (∀ j, ∀ hj : j < ios.length, ios[j].kind = 1 → j < n + 2) ∧ ∀ y ∈ ios, Lj (nb l) y := by
 obtain ⟨io0, root, size, first, hio, hF⟩ := h.steps
 have hlen : ios.length = io0.length + 3 := by rw [hio, Pl]
 refine ⟨io0.length, hlen, ?_, fun j hj hk => ?_, (Mt h.right).2⟩
 ·have := Sq (s := x.sup) (slot := x.slot) (ios := io0) (root := root) (size := size) (first := first) (io0.length + 3) (Au _)
  rw [Ah (by rw [Pl]; omega), ← hio] at this
  rw [this, if_neg (by omega), if_neg (by omega)]
 ·rcases Nat.lt_or_ge j (io0.length + 2) with h1 | h1
  ·exact h1
  ·exfalso
   have hj2 : j = io0.length + 2 := by omega
   subst hj2
   have e : ios[io0.length + 2] = flushIo := by
    have e1 : ios = (iosW io0 ++ [flushIo, wIo (1 - x.slot) (supB (Mc x.sup root size first))]) ++ [flushIo] := by rw [hio, Ml]; simp
    have e2 : ios[io0.length + 2]? = some flushIo := by
     rw [e1, List.getElem?_append_right (by rw [An, dS]; simp), An, dS]
     simp
    rw [Ab hj] at e2
    exact eR e2
   rw [e] at hk
   exact absurd hk (by decide)
section
variable {l : List UInt8} {ios ios2 : List IoV} {x x' x2 : Img}
theorem iX (h : Opd l ios x x') (h2 : Opd (Bl l ios) ios2 x' x2) : Fl l (ios ++ ios2) = 0 := by
 obtain ⟨_, _, _, _, r1⟩ := h.shape
 obtain ⟨_, _, _, _, r2⟩ := h2.shape
 have hnb : nb (Bl l ios) = nb l := by unfold nb; rw [h.len]
 refine qV h.dev.2 fun y hy => ?_
 rcases Bq.1 hy with hy | hy
 ·exact r1 y hy
 ·have := r2 y hy; rwa [hnb] at this
theorem lW {n m : Nat} (hl : ios.length = n + 3) (hf : Bx ios = [n, n + 2]) : Bx (ios ++ ios2) = [n, n + 2] ++ (Bx ios2).map (· + (n + 3)) := by
 have hs := kZ ios2 0 (n + 3)
 unfold Bx at hf ⊢
 rw [Sw, hf, hl, hs]
theorem Opd.states2 (h : Opd l ios x x') (h2 : Opd (Bl l ios) ios2 x' x2) : Od l (ios ++ ios2) = .ok [Cv l x, Cv (Bl l ios) x', Cv (Bl (Bl l ios) ios2) x2] := by
 obtain ⟨n, hl, hf, _, _⟩ := h.shape
 obtain ⟨m, hl2, hf2, _, _⟩ := h2.shape
 have hfl : Bx (ios ++ ios2) = [n, n + 2, m + (n + 3), m + 2 + (n + 3)] := by rw [lW (m := m) hl hf, hf2]; rfl
 unfold Od
 rw [if_neg (fun hh => hh (iX h h2)), (Fk h.dev.1).2 ⟨h.dev, h.img⟩, hfl]
 simp only [Ni]
 rw [if_pos (by decide), if_neg (by decide)]
 have e1 : ((ios ++ ios2).drop 0).take (n + 2 + 1 - 0) = ios := by
  rw [Bv, Nl, Cr (by omega), Ah (by omega)]
 have e2 : ((ios ++ ios2).drop (n + 2 + 1)).take (m + 2 + (n + 3) + 1 - (n + 2 + 1)) = ios2 := by
  rw [Kg, Cf (by omega), Db, hl, Tn, Bv, Ah (by omega)]
 have hl' : (Bl l ios).length < 1000000 := by rw [h.len]; exact h.dev.1
 have hl'' : (Bl (Bl l ios) ios2).length < 1000000 := by rw [h2.len]; exact hl'
 rw [e1, (Fk hl').2 ⟨Pk h.dev h.len, h.img'⟩]
 simp only
 rw [if_pos (by decide), if_neg (by decide), e2, (Fk hl'').2 ⟨Pk h2.dev h2.len, h2.img'⟩]
 rfl
theorem Asw (h : Opd l ios x x') (c : Nat) (keep : List Bool) : Ea l (ios ++ ios2) (ios.length + c) keep = Ea (Bl l ios) ios2 c keep ∧ (Bx ((ios ++ ios2).take (ios.length + c))).length = 2 + (Bx (ios2.take c)).length := by
 obtain ⟨n, hl, hf, hk, _⟩ := h.shape
 have ht : (ios ++ ios2).take (ios.length + c) = ios ++ ios2.take c := by
  rw [bB, Ah (by omega), show ios.length + c - ios.length = c by omega]
 have hfb := lW (ios2 := ios2.take c) (m := 0) hl hf
 rw [ht]
 refine ⟨?_, by rw [hfb]; simp; omega⟩
 unfold Ea
 rw [ht]
 obtain ⟨b, hb⟩ : ∃ b, b = ios2.take c := ⟨_, rfl⟩
 rw [← hb] at hfb ⊢
 have hfr := (aV b 0).1
 have hs : eF (ios ++ b) = if Bx b = [] then n + 2 else eF b + (n + 3) := by
  unfold eF
  rw [hfb]
  by_cases he : Bx b = []
  ·rw [if_pos he, he]; rfl
  ·rw [if_neg he]
   obtain ⟨p, hp⟩ : ∃ p, (Bx b).length = p + 1 := ⟨(Bx b).length - 1, by have := Ey.2 he; omega⟩
   rw [An, Ag, hp]
   rw [Af, List.getElem?_append_right (by simp), Az, Af]
   rw [show [n, n + 2].length + (p + 1) - 1 - [n, n + 2].length = p + 1 - 1 by simp, Ab (show p + 1 - 1 < (Bx b).length by omega)]
   rfl
 rw [hs]
 have hle : n + 2 ≤ (if Bx b = [] then n + 2 else eF b + (n + 3)) := by split <;> omega
 rw [xO b ios 0 0 l fun j hj hk1 => by have := hk j hj hk1; omega]
 rw [hl]
 refine lE b 0 0 (Bl l ios) fun j _ hj => ?_
 by_cases he : Bx b = []
 ·rw [if_pos he]
  have e0 : eF b = 0 := by unfold eF; rw [he]; rfl
  rw [e0]; omega
 ·rw [if_neg he]; omega
theorem Aqt {c : Nat} (hc : c ≤ ios.length) (keep : List Bool) : Ea l (ios ++ ios2) c keep = Ea l ios c keep ∧ Bx ((ios ++ ios2).take c) = Bx (ios.take c) := by
 have ht : (ios ++ ios2).take c = ios.take c := Cr hc
 unfold Ea
 rw [ht]; exact ⟨rfl, rfl⟩
end
theorem IosOk.append {a b : List IoV} (ha : IosOk a) (hb : IosOk b) (h : a.length + b.length < 100000) : IosOk (a ++ b) :=
 ⟨by rw [An]; exact h, fun y hy => (Bq.1 hy).elim (ha.2 y) (hb.2 y)⟩
def iot (x : IoV) : Nat × Nat × List UInt8 := (x.kind, x.at0, x.data)
def Like (a b : List IoV) : Prop := a.map iot = b.map iot
theorem eV {x y : IoV} {a b : List IoV} (h : Like (x :: a) (y :: b)) : x.kind = y.kind ∧ x.at0 = y.at0 ∧ x.data = y.data ∧ Like a b := by
 unfold Like at h
 rw [Bc, Bc, List.cons.injEq] at h
 have h1 := h.1
 unfold iot at h1
 rw [Ao, Ao] at h1
 exact ⟨h1.1, h1.2.1, h1.2.2, h.2⟩
theorem Like.len {a b : List IoV} (h : Like a b) : a.length = b.length := by
 have := Bp List.length h
 rwa [Ag, Ag] at this
theorem Like.take {a b : List IoV} (h : Like a b) (c : Nat) : Like (a.take c) (b.take c) := by
 unfold Like at h ⊢; rw [Ez, Ez, h]
theorem Like.drop {a b : List IoV} (h : Like a b) (c : Nat) : Like (a.drop c) (b.drop c) := by
 unfold Like at h ⊢; rw [Eb, Eb, h]
theorem iM : ∀ (a b : List IoV) (i : Nat), Like a b → Kf a i = Kf b i
 | [], [], _, _ => rfl
 | x :: a, y :: b, i, h => by
  obtain ⟨h1, _, _, h4⟩ := eV h
  unfold Kf
  rw [h1, iM a b (i + 1) h4]
 | [], _ :: _, _, h => by cases h
 | _ :: _, [], _, h => by cases h
theorem uH : ∀ (a b : List IoV) (l : List UInt8), Like a b → Bl l a = Bl l b
 | [], [], _, _ => rfl
 | x :: a, y :: b, l, h => by
  obtain ⟨h1, h2, h3, h4⟩ := eV h
  show Bl (if x.kind = 1 then wr l x.at0 x.data else l) a = Bl (if y.kind = 1 then wr l y.at0 y.data else l) b
  rw [h1, h2, h3, uH a b _ h4]
 | [], _ :: _, _, h => by cases h
 | _ :: _, [], _, h => by cases h
theorem Vi {s : Nat} {keep : List Bool} : ∀ (a b : List IoV) (i o : Nat) (l : List UInt8), Like a b → Hx s keep a i o l = Hx s keep b i o l
 | [], [], _, _, _, _ => rfl
 | x :: a, y :: b, i, o, l, h => by
  obtain ⟨h1, h2, h3, h4⟩ := eV h
  unfold Hx
  rw [h1, h2, h3, Vi a b _ _ _ h4, Vi a b _ _ _ h4, Vi a b _ _ _ h4, Vi a b _ _ _ h4]
 | [], _ :: _, _, _, _, h => by cases h
 | _ :: _, [], _, _, _, h => by cases h
theorem xG {n : Nat} : ∀ (a b : List IoV), Like a b → (∀ x ∈ b, Lj n x) → ∀ x ∈ a, Lj n x
 | [], _, _, _, x, hx => by cases hx
 | x :: a, y :: b, h, hb, z, hz => by
  obtain ⟨h1, h2, h3, h4⟩ := eV h
  rcases Ar.1 hz with rfl | hz
  ·have := hb y (by simp)
   unfold Lj at this ⊢
   rwa [h1, h2, h3]
  ·exact xG a b h4 (fun w hw => hb w (by simp [hw])) z hz
 | _ :: _, [], h, _, _, _ => by cases h
theorem Like.steps {a b : List IoV} {l : List UInt8} (h : Like a b) (hb : Fl l b = 0) : Fl l a = 0 :=
 qV (Mt hb).1 (xG a b h (Mt hb).2)
theorem Like.crash {a b : List IoV} (h : Like a b) (l : List UInt8) (cut : Nat) (keep : List Bool) : Ea l a cut keep = Ea l b cut keep ∧ Bx (a.take cut) = Bx (b.take cut) := by
 have hf := iM _ _ 0 (h.take cut)
 have hf' : Bx (a.take cut) = Bx (b.take cut) := hf
 unfold Ea eF
 rw [hf']
 exact ⟨Vi _ _ _ _ _ (h.take cut), rfl⟩
theorem dJ {a b : List IoV} (h : Like a b) : ∀ (F : List Nat) (i frm : Nat) (acc : List ViewV) (l : List UInt8), Ni l a F i frm acc = Ni l b F i frm acc
 | [], _, _, _, _ => rfl
 | c :: F, i, frm, acc, l => by
  unfold Ni
  rw [uH _ _ l ((h.drop frm).take (c + 1 - frm)), dJ h F]
  simp only [dJ h F]
theorem Like.states {a b : List IoV} (h : Like a b) {l : List UInt8} (hb : Fl l b = 0) : Od l a = Od l b := by
 unfold Od
 rw [h.steps hb, hb, show Bx a = Bx b from iM a b 0 h]
 simp only [dJ h]
theorem Ant (k : Nat) (hk : 1000500 ≤ k) (f : Bool) {l : List UInt8} {ios ios2 : List IoV} {x x' x2 : Img} (h : Opd l ios x x') (h2 : Opd (Bl l ios) ios2 x' x2) {all : List IoV} (hL : Like all (ios ++ ios2)) (hok : IosOk all) (t' f' : Bool) (cut : Nat) (hcut : cut ≤ all.length) (t3 f3 : Bool) (s3 : Nat) (keep : List Bool) (hs3 : s3 = 1 ∨ keep = []) (hkl : keep.length < 100000) :
  FnV (CF k) So [.islc false f 1 (BL l), .islc t' f' 3 (all.map IoV.av), .int .i64 cut, .islc t3 f3 s3 (keep.map AV.bool), .int .i64 2] (.bool true) := by
 have hd' := Pk h.dev h.len
 have hx := La h.dev h.img
 have hx' := La hd' h.img'
 have hx2 := La (Pk h2.dev h2.len) h2.img'
 have hvo : ∀ w ∈ [Cv l x, Cv (Bl l ios) x', Cv (Bl (Bl l ios) ios2) x2], w.ok := by
  intro w hw
  simp only [Ar, Kh, bT] at hw
  rcases hw with rfl | rfl | rfl
  ·exact Ns h.dev hx
  ·exact Ns hd' hx'
  ·exact Ns (Pk h2.dev h2.len) hx2
 have hst := (hL.states (iX h h2)).trans (h.states2 h2)
 have hsr := hL.steps (iX h h2)
 have hcut0 := hcut
 rw [hL.len, An] at hcut
 by_cases hc : cut ≤ ios.length
 ·obtain ⟨e1, e2⟩ := Aqt (l := l) (ios2 := ios2) hc keep
  obtain ⟨_, xc, hxc, hv⟩ := h.crash keep hc
  rw [← e1] at hxc hv
  rw [← e2] at hv
  rw [← (hL.crash l cut keep).1] at hxc hv
  rw [← (hL.crash l cut keep).2] at hv
  refine Adq k hk f l h.dev.1 t' f' _ hok.1 (fun y hy => (hok.2 y hy).1) cut hcut0 t3 f3 s3 keep hs3 hkl 2 (by decide) hst rfl hvo hsr hxc ?_
  rcases hv with ⟨h1, h3⟩ | ⟨h1, h3, _⟩
  ·rw [h1, h3]; exact .inl rfl
  ·rw [h1]
   rcases (by omega : (Bx (all.take cut)).length / 2 = 0 ∨ (Bx (all.take cut)).length / 2 = 1) with h4 | h4
   ·rw [h4]; exact .inr rfl
   ·rw [h4]; exact .inl rfl
 ·obtain ⟨c, rfl⟩ : ∃ c, cut = ios.length + c := ⟨cut - ios.length, by omega⟩
  obtain ⟨e1, e2⟩ := Asw (ios2 := ios2) h c keep
  obtain ⟨_, xc, hxc, hv⟩ := h2.crash keep (cut := c) (by omega)
  rw [← e1] at hxc hv
  rw [← (hL.crash l (ios.length + c) keep).1] at hxc hv
  rw [← (hL.crash l (ios.length + c) keep).2] at e2
  refine Adq k hk f l h.dev.1 t' f' _ hok.1 (fun y hy => (hok.2 y hy).1) _ hcut0 t3 f3 s3 keep hs3 hkl 2 (by decide) hst rfl hvo hsr hxc ?_
  rcases hv with ⟨h1, h3⟩ | ⟨h1, h3, _⟩
  ·rw [h1, show (Bx (all.take (ios.length + c))).length / 2 = 1 by omega]; exact .inl rfl
  ·rw [h1]
   rcases (by omega : (Bx (all.take (ios.length + c))).length / 2 = 1 ∨ (Bx (all.take (ios.length + c))).length / 2 = 2) with h4 | h4
   ·rw [h4]; exact .inr rfl
   ·rw [h4]; exact .inl rfl
end Go.Proofs.YtkaiiopoilpjeaaGreat

