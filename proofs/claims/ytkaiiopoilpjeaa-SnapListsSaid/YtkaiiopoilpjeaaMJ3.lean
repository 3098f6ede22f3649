/- Lemmas. -/
import Derived.Test.YtkaiiopoilpjeaaJ14
set_option linter.unusedSimpArgs false
set_option linter.unusedVariables false
set_option maxRecDepth 10000
set_option maxHeartbeats 16000000
namespace Go.Proofs.Ytkaiiopoilpjeaa
open Go.AI
attribute [local irreducible] aops Bb Cj Dm aop W WO
theorem Ahh (k : Nat) (hk : 5 ≤ k) (r : Rec) (hr : r.ok) : FnV (CF k) Mh [r.av] (.bool false) := by
 have hc := Lj (k - 1) (by omega) r
 rw [if_pos hr] at hc
 obtain ⟨b1, b2, b3, b4, b5, b6, b7, b8⟩ := r
 unfold Rec.av at hc ⊢
 simp only at hc ⊢
 refine fnk (by omega) iE rfl ?_
 unfold Rx
 repeat' (first | refine Ag (hc) (fun _ => ?_) (fun _ => ?_) | refine Ad (hc) ?_ | refine qQb ?_ | refine Ab (fun _ => ?_) (fun _ => ?_))
 exact ⟨Or.inr rfl, _, rfl, rfl⟩
theorem Agq (k : Nat) (hk : 2 ≤ k) (a : Nat) (ha : 2 ≤ a ∧ a < 4096) : FnV (CF k) Lm [nav a] (.bool false) := by
 have hc := gZ (k - 1) (by omega) a
 rw [Az ha] at hc
 unfold nav
 refine fnk (by omega) eM rfl ?_
 unfold Rq
 repeat' (first | refine qS ?_ | refine Ad hc ?_ | refine qQb ?_ | fail)
 exact ⟨Or.inr rfl, _, rfl, rfl⟩
theorem jY (k : Nat) (hk : 10 ≤ k) (t f : Bool) (s : Nat) (v : AV) : FnV (CF k) Gi [.islc t f s [], v] (.int .i64 (-1)) := by
 refine fnk (by omega) Il rfl ?_
 unfold Fg
 repeat' (first | refine qQb ?_ | refine Ab (fun _ => ?_) (fun _ => ?_))
 refine Ib (w_it (by omega) ?_)
 repeat' (first | refine qQb ?_ | refine Ab (fun _ => ?_) (fun _ => ?_))
 exact ⟨Or.inr rfl, _, rfl, rfl⟩
theorem aP (k : Nat) (hk : 11 ≤ k) (t f : Bool) (s : Nat) (fn : Nat) (caps : List AV) (hz : ∀ H, caps.map (fz false 5 H) = caps) : FnV (CF k) Ed [.islc t f s [], .fn fn caps] (.bool false) := by
 have hi := jY (k - 1) (by omega) t f s (.fn fn caps)
 refine fnk (by omega) Hr rfl ?_
 unfold Eo
 repeat' (first | refine qS ?_ | refine Ad hi ?_ rfl (by show [_, AV.fn fn (caps.map (fz false 5 _))] = _; rw [hz]; rfl) | refine qQb ?_ | refine Ab (fun _ => ?_) (fun _ => ?_))
 exact ⟨Or.inr rfl, _, rfl, rfl⟩
def oY (l : List Nat) : Prop := ∀ i, i + 1 < l.length → l.getD i default < l.getD (i + 1) default
theorem rG {k : Nat} {free : List Nat} {f : Bool} {T : Tmps} {H : Heap} (hk : 1000000 ≤ k) (hl : free.length ≤ 4096) (hr : oY free)
  (hT : Has T [(5, .islc false f 1 (NL free)), (13, .bool false), (53, .int .i64 free.length), (54, .int .i64 0)]) :
  W (Bb (CF k) noX 0 k (.loop Vs) T H) (fun ex T' H' => ex = .exit 0 ∧ T' 13 = .bool false) := by
 refine Fx free.length (fun i T' H' => Has T' [(5, .islc false f 1 (NL free)), (13, .bool false), (53, .int .i64 free.length), (54, .int .i64 (i : Nat))]) hT (by omega) ?_
 rintro i T H hi hT
 rw [hT.eq]
 simp only [over]
 unfold Vs
 by_cases hil : i < free.length
 ·by_cases h0 : i = 0
  ·subst h0
   repeat' (first | refine qS ?_ | refine qN ?_ | refine qQb ?_ | refine Ab (fun _ => ?_) (fun _ => ?_))
   exact ⟨hil, rfl, rfl, rfl, by show AV.int _ _ = AV.int _ _; congr 1, trivial⟩
  ·have hlt := hr (i - 1) (by omega)
   rw [show i - 1 + 1 = i by omega] at hlt
   obtain ⟨a, ha⟩ : ∃ a, a = free.getD (i - 1) default := ⟨_, rfl⟩
   obtain ⟨b, hb⟩ : ∃ b, b = free.getD i default := ⟨_, rfl⟩
   rw [← ha, ← hb] at hlt
   have ha2 : free.getD ((i : Int) - 1).toNat default = a := by rw [show ((i : Int) - 1).toNat = i - 1 by omega]; exact ha.symm
   have hb2 : free.getD (i : Int).toNat default = b := by rw [show (i : Int).toNat = i by omega]; exact hb.symm
   repeat' (first
    | refine qS ?_ | refine qN ?_ | refine Iu (enc := nav) a rfl rfl (by omega) (by omega) ha2 rfl rfl ?_ | refine Iu (enc := nav) b rfl rfl (by omega) (by omega) hb2 rfl rfl ?_
    | refine qQb ?_ | refine Ab (fun _ => ?_) (fun _ => ?_))
   exact ⟨hil, rfl, rfl, rfl, by show AV.int _ _ = AV.int _ _; congr 1, trivial⟩
 ·have hin : i = free.length := by omega
  repeat' (first | refine qS ?_ | refine qN ?_ | refine qQb ?_ | refine Ab (fun _ => ?_) (fun _ => ?_))
  exact ⟨rfl, rfl⟩
theorem nJ (k : Nat) (hk : 1000050 ≤ k) (recs : List Rec) (f1 : Bool) (s1 : Nat) (hs1 : s1 = 8 ∨ recs = []) (bl : List Nat) (f2 : Bool) (s2 : Nat) (hs2 : s2 = 1 ∨ bl = []) (n : Nat) (first : Rec) (wth : Bool) (free : List Nat) (f3 : Bool) (hrl : recs.length < 1000) (hbl : bl.length = recs.length) (hn : n ≤ recs.length)
  (hro : ∀ r ∈ recs, r.ok) (hfo : wth = true → ({ first with next := 0 } : Rec).ok) (hb : ∀ a ∈ bl, 2 ≤ a ∧ a < 4096) (hf : ∀ a ∈ free, 2 ≤ a ∧ a < 4096) (hfl : free.length ≤ 4096) (hinc : oY free) :
  FnV (CF k) Ze [.islc false f1 s1 (recs.map Rec.av), .islc false f2 s2 (NL bl), .int .i64 n, first.av, .bool wth, .islc false f3 1 (NL free)] (.bool true) := by
 have hc := Lj (k - 1) (by omega) { first with next := 0 }
 have hcr : FnV (CF (k - 1)) Bs [.islc false f1 s1 (recs.map Rec.av), .fn Mh []] (.bool false) := by
  by_cases hn : recs = []
  ·subst hn
   exact My (k - 1) (by omega) false f1 s1 _ _ (fun _ => rfl)
  ·obtain rfl : s1 = 8 := hs1.resolve_right hn
   have := Nv (k - 1) (by omega) false f1 recs Mh [] (fun _ => false) (by omega) (fun _ => rfl) (fun _ _ => rfl) (fun i hi => Ahh (k - 3) (by omega) _ (hro _ (by rw [Aw, Ai hi]; exact Bz hi)))
   rwa [show (recs.any fun _ => false) = false by simp] at this
 obtain ⟨f', s', hs', hcc⟩ := Adk (k - 1) (by omega) bl free f2 f3 s2 1 hs2 (.inl rfl) (by omega)
 have hcn : FnV (CF (k - 1)) Ed [.islc false f' s' (NL (bl ++ free)), .fn Lm []] (.bool false) := by
  by_cases hn : bl ++ free = []
  ·rw [hn]
   exact aP (k - 1) (by omega) false f' s' _ _ (fun _ => rfl)
  ·obtain rfl : s' = 1 := hs'.resolve_right hn
   have := Kl (k - 1) (by omega) false f' (bl ++ free) Lm [] (fun _ => false) (by simp; omega) (fun _ => rfl) (fun _ _ => rfl) (fun i hi => Agq (k - 3) (by omega) _ (by
    have hm : (bl ++ free).getD i default ∈ bl ++ free := by rw [Aw, Ai hi]; exact Bz hi
    rcases Bg.1 hm with h | h
    ·exact hb _ h
    ·exact hf _ h))
   rwa [show ((bl ++ free).any fun _ => false) = false by simp] at this
 have hlr : (recs.map Rec.av).length = recs.length := Ak _
 obtain ⟨b1, b2, b3, b4, b5, b6, b7, b8⟩ := first
 unfold Rec.av at hc ⊢
 simp only at hc hfo ⊢
 refine fnk (by omega) oG rfl ?_
 unfold commit_may
 cases wth with
 | true =>
  rw [if_pos (hfo rfl)] at hc
  have hc' : FnV (CF (k - 1)) Pf [.agg [.int .i64 0, .int .i64 b2, .int .i64 b3, .int .i64 b4, .int .i64 b5, .int .i64 b6, .int .i64 b7, .int .i64 b8]] (.int .i64 0) := hc
  repeat' (first
   | refine qS ?_ | refine qN ?_ | refine Ad hcr ?_ | refine Ad hcc ?_ | refine Ad hcn ?_ | refine Ba (n := recs.length) rfl hlr rfl rfl ?_
   | refine Ba (n := bl.length) rfl (Be _) rfl rfl ?_ | refine Ba (n := free.length) rfl (Be _) rfl rfl ?_ | refine Ag (hc') (fun _ => ?_) (fun _ => ?_)
   | refine Ad (hc') ?_ | refine qQb ?_ | refine Ab (fun _ => ?_) (fun _ => ?_))
  refine W.mono (rG (k := k - 1) (free := free) (f := f3) (by omega) hfl hinc ?_) ?_
  ·exact ⟨rfl, rfl, rfl, rfl, trivial⟩
  rintro ex T2 H2 ⟨rfl, h13⟩
  rw [Has.eq (T := T2) (ps := [(13, _)]) ⟨h13, trivial⟩]
  simp only [over]
  show W _ _
  repeat' (first | refine qS ?_ | refine qN ?_ | refine qQb ?_ | refine Ab (fun _ => ?_) (fun _ => ?_))
  exact ⟨Or.inr rfl, _, rfl, rfl⟩
 | false =>
  repeat' (first
   | refine qS ?_ | refine qN ?_ | refine Ad hcr ?_ | refine Ad hcc ?_ | refine Ad hcn ?_ | refine Ba (n := recs.length) rfl hlr rfl rfl ?_
   | refine Ba (n := bl.length) rfl (Be _) rfl rfl ?_ | refine Ba (n := free.length) rfl (Be _) rfl rfl ?_ | refine qQb ?_ | refine Ab (fun _ => ?_) (fun _ => ?_))
  refine W.mono (rG (k := k - 1) (free := free) (f := f3) (by omega) hfl hinc ?_) ?_
  ·exact ⟨rfl, rfl, rfl, rfl, trivial⟩
  rintro ex T2 H2 ⟨rfl, h13⟩
  rw [Has.eq (T := T2) (ps := [(13, _)]) ⟨h13, trivial⟩]
  simp only [over]
  show W _ _
  repeat' (first | refine qS ?_ | refine qN ?_ | refine qQb ?_ | refine Ab (fun _ => ?_) (fun _ => ?_))
  exact ⟨Or.inr rfl, _, rfl, rfl⟩
end Go.Proofs.Ytkaiiopoilpjeaa
set_option maxRecDepth 10000
set_option maxHeartbeats 16000000
namespace Go.AI
section
variable {cf : Cx} {xf : ExtF} {base : Nat} {T : Tmps} {H : Heap} {QO : Tmps → Heap → Prop} {log : List FP} {g : Option (Nat × Bool)} {un : List Nat} {r : List SOper} {d : Nat} {t f : Bool}
theorem kX {α : Type} [Inhabited α] {enc : α → AV} {l : List α} {a : α} {j g0 ver i s : Nat} {x y : SArg} (hx : x.ev T = .ptr j g0 ver s i 0) (hr : H j = ⟨g0, false, .row s (l.map enc)⟩) (hv0 : l.length = ver) (hi : i < l.length) (hy : y.ev T = enc a) (hs : ∀ a, Dq (enc a) = true) (hc : ∀ a, (enc a).cells.length = s)
  (hrw : ∀ e a, (enc e).rewrap (enc a).cells = enc a) (hw : Af T g = some true) (hl : Av log ⟨[j], [j], false⟩ un = true) (h : WO (aops cf xf base r (log ++ [⟨[j], [j], false⟩]) T (H.upd j ⟨g0, false, .row s ((l.set i a).map enc)⟩)) QO) :
  WO (aops cf xf base (⟨none, .store s x y, g, un⟩ :: r) log T H) QO := by
 refine bH hx hr (by simpa using hv0) (dY enc l hi) hy (hs a) rfl (hc a) (by rw [hc]; omega) hw hl ?_
 rw [Ix, Dk, Bm (by rw [hc]; omega), Bt, hrw, ← List.map_set]
 exact h
end
end Go.AI
namespace Go.Proofs.Ytkaiiopoilpjeaa
open Go.AI
theorem Rec.st : ∀ a : Rec, Dq a.av = true := fun ⟨_, _, _, _, _, _, _, _⟩ => rfl
theorem Rec.cl : ∀ a : Rec, a.av.cells.length = 8 := fun ⟨_, _, _, _, _, _, _, _⟩ => rfl
theorem Rec.rw : ∀ e a : Rec, e.av.rewrap a.av.cells = a.av := fun ⟨_, _, _, _, _, _, _, _⟩ ⟨_, _, _, _, _, _, _, _⟩ => rfl
theorem Rec.ld : ∀ a : Rec, AV.agg (a.av.cells.take 8) = a.av := fun ⟨_, _, _, _, _, _, _, _⟩ => rfl
theorem Rec.nr : ∀ a : Rec, a.av.norefs = true := fun ⟨_, _, _, _, _, _, _, _⟩ => rfl
def revd (l m : List Rec) (i : Nat) : Prop := m.length = l.length ∧ ∀ x, x < l.length → m.getD x default = if x < i ∨ l.length - i ≤ x then l.getD (l.length - 1 - x) default else l.getD x default
theorem zD {l m : List Rec} {i : Nat} (h : revd l m i) (hi : i + i + 1 < l.length) : revd l ((m.set i (m.getD (l.length - 1 - i) default)).set (l.length - 1 - i) (m.getD i default)) (i + 1) := by
 obtain ⟨h1, h2⟩ := h
 refine ⟨by simp [h1], fun x hx => ?_⟩
 have e1 := h2 i (by omega)
 have e2 := h2 (l.length - 1 - i) (by omega)
 have e3 := h2 x hx
 rw [if_neg (by omega)] at e1 e2
 simp only [Aw, List.getElem?_set, Oq, h1] at e1 e2 e3 ⊢
 by_cases hxi : x = i
 ·subst hxi
  rw [if_neg (by omega), if_pos rfl, if_pos (by omega)]
  simp only [Nr]
  rw [e2, if_pos (by omega)]
 ·by_cases hxj : x = l.length - 1 - i
  ·subst hxj
   rw [if_pos rfl, if_pos (by omega)]
   simp only [Nr]
   rw [e1, if_pos (by omega), show l.length - 1 - (l.length - 1 - i) = i by omega]
  ·rw [if_neg (by omega), if_neg (by omega), e3]
   by_cases hc : x < i ∨ l.length - i ≤ x
   ·rw [if_pos hc, if_pos (by omega)]
   ·rw [if_neg hc, if_neg (by omega)]
theorem Abz {l m : List Rec} {i : Nat} (h : revd l m i) (hi : l.length ≤ i + i + 1) : m = l.reverse := by
 obtain ⟨h1, h2⟩ := h
 refine List.ext_getElem (by simp [h1]) fun x hx hx2 => ?_
 have e3 := h2 x (by omega)
 simp only [Aw, Ai hx, Nr] at e3
 rw [e3, List.getElem_reverse]
 by_cases hc : x < i ∨ l.length - i ≤ x
 ·rw [if_pos hc, Ai (by omega)]; rfl
 ·rw [if_neg hc, Ai (by omega)]
  simp only [Nr]
  congr 1
  omega
attribute [local irreducible] aops Bb Cj Dm aop W WO
theorem lH (k : Nat) (hk : 1000000 < k) (l : List Rec) (hl : l.length < 1000) (H : Heap) (hH : H 5 = ⟨1, false, .row 8 (l.map Rec.av)⟩) :
  ∃ u H', CF k Cb 6 [.slc 5 1 l.length 8 0 l.length none] H = some (u, H') ∧ H' = H.upd 5 ⟨1, false, .row 8 (l.reverse.map Rec.av)⟩ := by
 have hu : ∀ m : List Rec, (H.upd 5 ⟨1, false, .row 8 (m.map Rec.av)⟩) 5 = ⟨1, false, .row 8 (m.map Rec.av)⟩ := fun m => Heap.upd_same _ _ _
 have huu : ∀ a b : Blk, (H.upd 5 a).upd 5 b = H.upd 5 b := fun a b => by
  funext i
  by_cases hi : i = 5
  ·subst hi; rw [Heap.upd_same, Heap.upd_same]
  ·rw [Heap.upd_eq, if_neg hi, Heap.upd_eq, if_neg hi, Heap.upd_eq, if_neg hi]
 have hsame : H = H.upd 5 ⟨1, false, .row 8 (l.map Rec.av)⟩ := by
  funext i
  by_cases hi : i = 5
  ·subst hi; rw [Heap.upd_same]; exact hH
  ·rw [Heap.upd_eq, if_neg hi]
 refine fni (by omega) Ft rfl ?_
 unfold Di
 repeat' (first | refine qQb ?_ | refine Ab (fun _ => ?_) (fun _ => ?_))
 refine Fx 1000 (fun i T' H' => ∃ m, revd l m i ∧ i ≤ l.length ∧ H' = H.upd 5 ⟨1, false, .row 8 (m.map Rec.av)⟩ ∧ Has T' [(0, .slc 5 1 l.length 8 0 l.length none), (2, .int .i64 (i : Nat)), (3, .int .i64 ((l.length : Int) - 1 - (i : Nat)))])
  ⟨l, ⟨rfl, fun x hx => by rw [if_neg (by omega)]⟩, by omega, hsame, rfl, rfl, by show AV.int _ _ = AV.int _ _; congr 1; omega, trivial⟩ (by omega) ?_
 rintro i T H' hi ⟨m, hrv, hil0, rfl, hT⟩
 rw [hT.eq]
 simp only [over]
 have hml := hrv.1
 by_cases hil : i + i + 1 < l.length
 ·have hst := zD hrv hil
  obtain ⟨a, ha⟩ : ∃ a, a = m.getD i default := ⟨_, rfl⟩
  obtain ⟨b, hb⟩ : ∃ b, b = m.getD (l.length - 1 - i) default := ⟨_, rfl⟩
  rw [← ha, ← hb] at hst
  have hjx : ((l.length : Int) - 1 - (i : Nat)).toNat = l.length - 1 - i := by omega
  have ha2 : m.getD (0 + (i : Int).toNat) default = a := by rw [show 0 + (i : Int).toNat = i by omega]; exact ha.symm
  have hb2 : m.getD (0 + ((l.length : Int) - 1 - (i : Nat)).toNat) default = b := by rw [hjx, Da]; exact hb.symm
  have hmm : (m.map Rec.av).length = l.length := by rw [Ak]; exact hml
  have hmm2 : ((m.set (0 + (i : Int).toNat) b).map Rec.av).length = l.length := by simp [hml]
  repeat' (first
   | refine qS ?_ | refine Ep rfl rfl (hu m) hmm (by omega) (by omega) (by omega) rfl rfl ?_
   | refine Gx (enc := Rec.av) (l := m) (v := a.av) ?_ (hr := by exact hu m) (hv0 := by exact hml) (hv := by rw [ha2]; exact Rec.ld a) (hk := by rw [Rec.cl]; exact Ao _)
   | refine Gx (enc := Rec.av) (l := m) (v := b.av) ?_ (hr := by exact hu m) (hv0 := by exact hml) (hv := by rw [hb2]; exact Rec.ld b) (hk := by rw [Rec.cl]; exact Ao _)
   | refine Ep rfl rfl (by rfl) hmm2 (by omega) (by omega) (by omega) rfl rfl ?_
   | refine kX (enc := Rec.av) (l := m) (a := b) rfl (hu m) hml (by omega) rfl Rec.st Rec.cl Rec.rw rfl rfl ?_
   | refine kX (enc := Rec.av) (l := m.set (0 + (i : Int).toNat) b) (a := a) rfl (by rw [huu]; exact hu _) (by simp [hml]) (by simp [hml]; omega) rfl Rec.st Rec.cl Rec.rw rfl rfl ?_
   | refine qQb ?_ | refine Ab (fun _ => ?_) (fun _ => ?_))
  refine ⟨by omega, (m.set i b).set (l.length - 1 - i) a, hst, by omega, ?_, rfl, by show AV.int _ _ = AV.int _ _; congr 1, by show AV.int _ _ = AV.int _ _; congr 1; omega, trivial⟩
  show ((H.upd 5 _).upd 5 _).upd 5 ⟨1, false, .row 8 (((m.set (0 + (i : Int).toNat) b).set (0 + ((l.length : Int) - 1 - (i : Nat)).toNat) a).map Rec.av)⟩ = _
  rw [huu, huu, show 0 + (i : Int).toNat = i by omega, show 0 + ((l.length : Int) - 1 - (i : Nat)).toNat = l.length - 1 - i by omega]
 ·have hfin := Abz hrv (by omega)
  repeat' (first | refine qQb ?_ | refine Ab (fun _ => ?_) (fun _ => ?_))
  exact ⟨Or.inl rfl, _, rfl, by rw [hfin]⟩
end Go.Proofs.Ytkaiiopoilpjeaa
set_option maxRecDepth 10000
set_option maxHeartbeats 16000000
namespace Go.Proofs.Ytkaiiopoilpjeaa
open Go.AI
attribute [local irreducible] aops Bb Cj Dm aop W WO
def Em (recs : List Rec) (n : Nat) (first : Rec) (wth : Bool) : List Rec := (recs.take (n - 1)).reverse ++ (if wth = true then [first] else [])
def De : List Rec → List Nat → Nat → List IoV
 | r :: rs, a :: fs, p => wIo a (recB { r with next := p }) :: De rs fs a
 | [], _, _ => []
 | _ :: _, [], _ => []
def Ds : List Rec → List Nat → Nat → Nat
 | _ :: rs, a :: fs, _ => Ds rs fs a
 | [], _, p => p
 | _ :: _, [], p => p
def aL (anew : List Rec) (free : List Nat) (p : Nat) : AV :=
 if free.length < anew.length then .tup [.islc false false 3 [], .int .i64 0, .islc false false 1 [], .int .i64 9]
 else .tup [.islc false false 3 ((De anew free p).map IoV.av), .int .i64 (Ds anew free p), .islc false false 1 (NL (free.drop anew.length)), .int .i64 0]
theorem Ox : ∀ (rs : List Rec) (fs : List Nat) (p : Nat), ∀ x ∈ De rs fs p, x.t = false
 | [], _, _, x, h => by cases h
 | _ :: _, [], _, x, h => by cases h
 | r :: rs, a :: fs, p, x, h => by
  simp only [De] at h
  rcases Au.1 h with rfl | h
  ·rfl
  ·exact Ox rs fs a x h
theorem vC (k : Nat) (hk : 1000 < k) (t f : Bool) (s : Nat) (H : Heap) : CF k Cb 6 [.islc t f s []] H = some (.undef, H) ∨ ∃ u, CF k Cb 6 [.islc t f s []] H = some (u, H) := by
 refine .inr ?_
 have h : ∃ u H', CF k Cb 6 [.islc t f s []] H = some (u, H') ∧ H' = H := by
  refine fni (by omega) Ft rfl ?_
  unfold Di
  repeat' (first | refine qS ?_ | refine Ba (n := 0) rfl rfl rfl rfl ?_ | refine qQb ?_ | refine Ab (fun _ => ?_) (fun _ => ?_))
  refine Ib (w_it (by omega) ?_)
  repeat' (first | refine qQb ?_ | refine Ab (fun _ => ?_) (fun _ => ?_))
  exact ⟨Or.inl rfl, _, rfl, rfl⟩
 obtain ⟨u, H', h1, rfl⟩ := h
 exact ⟨u, h1⟩
theorem Sg {k : Nat} {anew : List Rec} {free : List Nat} {f3 : Bool} {p0 : Nat} {T : Tmps} {H : Heap} (hk : 1000050 ≤ k) (hm : anew.length < 1000) (hfl : anew.length ≤ free.length) (hfl2 : free.length ≤ 4096) (hro : ∀ r ∈ anew, ({ r with next := 0 } : Rec).ok) (hf : ∀ a ∈ free, 2 ≤ a ∧ a < 4096) (hp : ptrOk p0)
  (hj : H 5 = ⟨1, false, .row 8 (anew.map Rec.av)⟩) (h1 : H 1 = ⟨1, false, .row 3 []⟩)
  (hT : Has T [(5, .islc false f3 1 (NL free)), (12, .slc 1 1 0 3 0 0 none), (13, .int .i64 p0), (16, .slc 5 1 anew.length 8 0 anew.length none), (55, .slc 5 1 anew.length 8 0 anew.length none), (56, .int .i64 anew.length), (57, .int .i64 0)]) :
  W (Bb (CF k) noX 0 k (.loop Ji) T H) (fun ex T' H' => ex = .exit 0 ∧ (De anew free p0).length = anew.length ∧ H' 1 = ⟨1, false, .row 3 ((De anew free p0).map IoV.av)⟩ ∧
   Has T' [(5, .islc false f3 1 (NL free)), (12, .slc 1 1 anew.length 3 0 anew.length none), (13, .int .i64 (Ds anew free p0)), (16, .slc 5 1 anew.length 8 0 anew.length none)]) := by
 refine Fx anew.length (fun i T' H' => ∃ (out : List IoV) (p : Nat), out.length = i ∧ ptrOk p ∧ De anew free p0 = out ++ De (anew.drop i) (free.drop i) p ∧ Ds anew free p0 = Ds (anew.drop i) (free.drop i) p ∧ H' 5 = ⟨1, false, .row 8 (anew.map Rec.av)⟩ ∧ H' 1 = ⟨1, false, .row 3 (out.map IoV.av)⟩ ∧
   Has T' [(5, .islc false f3 1 (NL free)), (12, .slc 1 1 i 3 0 i none), (13, .int .i64 p), (16, .slc 5 1 anew.length 8 0 anew.length none), (55, .slc 5 1 anew.length 8 0 anew.length none), (56, .int .i64 anew.length), (57, .int .i64 (i : Nat))])
  ⟨[], p0, rfl, hp, rfl, rfl, hj, h1, hT⟩ (by omega) ?_
 rintro i T H hi ⟨out, p, hol, hpp, hgo, hge, gj, g1, hT⟩
 rw [hT.eq]
 simp only [over]
 unfold Ji
 by_cases hil : i < anew.length
 ·have hif : i < free.length := by omega
  rw [Cg hil, Cg hif] at hgo hge
  obtain ⟨a, ha⟩ : ∃ a, a = free[i] := ⟨_, rfl⟩
  obtain ⟨⟨b1, b2, b3, b4, b5, b6, b7, b8⟩, hr⟩ : ∃ r, r = anew[i] := ⟨_, rfl⟩
  have hab := hf free[i] (Bz hif)
  have hrk := hro anew[i] (Bz hil)
  rw [← ha, ← hr] at hgo hge
  rw [← ha] at hab
  rw [← hr] at hrk
  simp only [De, Ds] at hgo hge
  have hok : (⟨p, b2, b3, b4, b5, b6, b7, b8⟩ : Rec).ok := ⟨hpp, hrk.2⟩
  have hb := Ua k (by omega) ⟨p, b2, b3, b4, b5, b6, b7, b8⟩
  rw [if_pos hok] at hb
  have hb' : FnV (CF k) Lz [.agg [.int .i64 p, .int .i64 b2, .int .i64 b3, .int .i64 b4, .int .i64 b5, .int .i64 b6, .int .i64 b7, .int .i64 b8]] (.tup [.islc false false 1 (BL (recB ⟨p, b2, b3, b4, b5, b6, b7, b8⟩)), .int .i64 0]) := hb
  have hml : (anew.map Rec.av).length = anew.length := Ak _
  have he : (anew.map Rec.av)[0 + (i : Int).toNat]? = some (.agg [.int .i64 b1, .int .i64 b2, .int .i64 b3, .int .i64 b4, .int .i64 b5, .int .i64 b6, .int .i64 b7, .int .i64 b8]) := by
   rw [show 0 + (i : Int).toNat = i by omega, Cd, Ai hil, ← hr]; rfl
  have ha2 : free.getD (i : Int).toNat default = a := by rw [Bd, ha]; simp [hif]
  have hol2 : (out.map IoV.av).length = i := by rw [Ak]; exact hol
  repeat' (first
   | refine qS ?_ | refine Ep rfl rfl (by exact gj) hml (by omega) (by omega) (by omega) rfl rfl ?_
   | refine Mc (.agg [.int .i64 b1, .int .i64 b2, .int .i64 b3, .int .i64 b4, .int .i64 b5, .int .i64 b6, .int .i64 b7, .int .i64 b8]) rfl (by exact gj) hml he (Ce rfl) rfl rfl rfl ?_
   | refine Iu (enc := nav) a rfl rfl (by omega) (by omega) ha2 rfl rfl ?_ | refine It rfl rfl rfl (by exact g1) hol2 rfl (by omega) rfl rfl (fun _ => ?_)
   | refine Ag (hb') (fun _ => ?_) (fun _ => ?_) | refine Ad (hb') ?_ | refine qQb ?_ | refine Ab (fun _ => ?_) (fun _ => ?_) | refine Ax fun _ => ?_)
  refine ⟨hil, out ++ [wIo a (recB ⟨p, b2, b3, b4, b5, b6, b7, b8⟩)], a, by simp [hol], .inr hab, by rw [hgo, Dr]; rfl, hge, gj, by rw [Br]; rfl, rfl, rfl, rfl, rfl, rfl, rfl, by show AV.int _ _ = AV.int _ _; congr 1, trivial⟩
 ·have hin : i = anew.length := by omega
  repeat' (first | refine qQb ?_ | refine Ab (fun _ => ?_) (fun _ => ?_) | refine Ax fun _ => ?_)
  subst hin
  rw [Ik] at hgo hge
  simp only [De, Ds, Bt] at hgo hge
  rw [hgo, hge]
  exact ⟨rfl, hol, g1, rfl, rfl, rfl, rfl, trivial⟩
theorem eG {k : Nat} {anew : List Rec} {free : List Nat} {f3 : Bool} {p0 : Nat} {T : Tmps} {H : Heap} (hk : 1000050 ≤ k) (hm : anew.length < 1000) (hfl : anew.length ≤ free.length) (hfl2 : free.length ≤ 4096) (hro : ∀ r ∈ anew, ({ r with next := 0 } : Rec).ok) (hf : ∀ a ∈ free, 2 ≤ a ∧ a < 4096) (hp : ptrOk p0)
  (hj : H 7 = ⟨1, false, .row 8 (anew.map Rec.av)⟩) (h1 : H 1 = ⟨1, false, .row 3 []⟩)
  (hT : Has T [(5, .islc false f3 1 (NL free)), (12, .slc 1 1 0 3 0 0 none), (13, .int .i64 p0), (16, .slc 7 1 anew.length 8 0 anew.length none), (55, .slc 7 1 anew.length 8 0 anew.length none), (56, .int .i64 anew.length), (57, .int .i64 0)]) :
  W (Bb (CF k) noX 0 k (.loop Ji) T H) (fun ex T' H' => ex = .exit 0 ∧ (De anew free p0).length = anew.length ∧ H' 1 = ⟨1, false, .row 3 ((De anew free p0).map IoV.av)⟩ ∧
   Has T' [(5, .islc false f3 1 (NL free)), (12, .slc 1 1 anew.length 3 0 anew.length none), (13, .int .i64 (Ds anew free p0)), (16, .slc 7 1 anew.length 8 0 anew.length none)]) := by
 refine Fx anew.length (fun i T' H' => ∃ (out : List IoV) (p : Nat), out.length = i ∧ ptrOk p ∧ De anew free p0 = out ++ De (anew.drop i) (free.drop i) p ∧ Ds anew free p0 = Ds (anew.drop i) (free.drop i) p ∧ H' 7 = ⟨1, false, .row 8 (anew.map Rec.av)⟩ ∧ H' 1 = ⟨1, false, .row 3 (out.map IoV.av)⟩ ∧
   Has T' [(5, .islc false f3 1 (NL free)), (12, .slc 1 1 i 3 0 i none), (13, .int .i64 p), (16, .slc 7 1 anew.length 8 0 anew.length none), (55, .slc 7 1 anew.length 8 0 anew.length none), (56, .int .i64 anew.length), (57, .int .i64 (i : Nat))])
  ⟨[], p0, rfl, hp, rfl, rfl, hj, h1, hT⟩ (by omega) ?_
 rintro i T H hi ⟨out, p, hol, hpp, hgo, hge, gj, g1, hT⟩
 rw [hT.eq]
 simp only [over]
 unfold Ji
 by_cases hil : i < anew.length
 ·have hif : i < free.length := by omega
  rw [Cg hil, Cg hif] at hgo hge
  obtain ⟨a, ha⟩ : ∃ a, a = free[i] := ⟨_, rfl⟩
  obtain ⟨⟨b1, b2, b3, b4, b5, b6, b7, b8⟩, hr⟩ : ∃ r, r = anew[i] := ⟨_, rfl⟩
  have hab := hf free[i] (Bz hif)
  have hrk := hro anew[i] (Bz hil)
  rw [← ha, ← hr] at hgo hge
  rw [← ha] at hab
  rw [← hr] at hrk
  simp only [De, Ds] at hgo hge
  have hok : (⟨p, b2, b3, b4, b5, b6, b7, b8⟩ : Rec).ok := ⟨hpp, hrk.2⟩
  have hb := Ua k (by omega) ⟨p, b2, b3, b4, b5, b6, b7, b8⟩
  rw [if_pos hok] at hb
  have hb' : FnV (CF k) Lz [.agg [.int .i64 p, .int .i64 b2, .int .i64 b3, .int .i64 b4, .int .i64 b5, .int .i64 b6, .int .i64 b7, .int .i64 b8]] (.tup [.islc false false 1 (BL (recB ⟨p, b2, b3, b4, b5, b6, b7, b8⟩)), .int .i64 0]) := hb
  have hml : (anew.map Rec.av).length = anew.length := Ak _
  have he : (anew.map Rec.av)[0 + (i : Int).toNat]? = some (.agg [.int .i64 b1, .int .i64 b2, .int .i64 b3, .int .i64 b4, .int .i64 b5, .int .i64 b6, .int .i64 b7, .int .i64 b8]) := by
   rw [show 0 + (i : Int).toNat = i by omega, Cd, Ai hil, ← hr]; rfl
  have ha2 : free.getD (i : Int).toNat default = a := by rw [Bd, ha]; simp [hif]
  have hol2 : (out.map IoV.av).length = i := by rw [Ak]; exact hol
  repeat' (first
   | refine qS ?_ | refine Ep rfl rfl (by exact gj) hml (by omega) (by omega) (by omega) rfl rfl ?_
   | refine Mc (.agg [.int .i64 b1, .int .i64 b2, .int .i64 b3, .int .i64 b4, .int .i64 b5, .int .i64 b6, .int .i64 b7, .int .i64 b8]) rfl (by exact gj) hml he (Ce rfl) rfl rfl rfl ?_
   | refine Iu (enc := nav) a rfl rfl (by omega) (by omega) ha2 rfl rfl ?_ | refine It rfl rfl rfl (by exact g1) hol2 rfl (by omega) rfl rfl (fun _ => ?_)
   | refine Ag (hb') (fun _ => ?_) (fun _ => ?_) | refine Ad (hb') ?_ | refine qQb ?_ | refine Ab (fun _ => ?_) (fun _ => ?_) | refine Ax fun _ => ?_)
  refine ⟨hil, out ++ [wIo a (recB ⟨p, b2, b3, b4, b5, b6, b7, b8⟩)], a, by simp [hol], .inr hab, by rw [hgo, Dr]; rfl, hge, gj, by rw [Br]; rfl, rfl, rfl, rfl, rfl, rfl, rfl, by show AV.int _ _ = AV.int _ _; congr 1, trivial⟩
 ·have hin : i = anew.length := by omega
  repeat' (first | refine qQb ?_ | refine Ab (fun _ => ?_) (fun _ => ?_) | refine Ax fun _ => ?_)
  subst hin
  rw [Ik] at hgo hge
  simp only [De, Ds, Bt] at hgo hge
  rw [hgo, hge]
  exact ⟨rfl, hol, g1, rfl, rfl, rfl, rfl, trivial⟩
end Go.Proofs.Ytkaiiopoilpjeaa
