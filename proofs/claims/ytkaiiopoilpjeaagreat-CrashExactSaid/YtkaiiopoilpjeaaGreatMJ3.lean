/- Lemmas. -/
import Derived.Test.YtkaiiopoilpjeaaGreatJ14
set_option linter.unusedSimpArgs false
set_option linter.unusedVariables false
set_option maxRecDepth 10000
set_option maxHeartbeats 16000000
namespace Go.Proofs.YtkaiiopoilpjeaaGreat
open Go.AI
attribute [local irreducible] aops Br Cp Dp aop W WO
theorem Awg (k : Nat) (hk : 5 ≤ k) (r : Rec) (hr : r.ok) : FnV (CF k) Pg [r.av] (.bool false) := by
 have hc := Pm (k - 1) (by omega) r
 rw [if_pos hr] at hc
 obtain ⟨b1, b2, b3, b4, b5, b6, b7, b8⟩ := r
 unfold Rec.av at hc ⊢
 simp only at hc ⊢
 refine fnk (by omega) qG rfl ?_
 unfold Yc
 repeat' (first | refine Al (hc) (fun _ => ?_) (fun _ => ?_) | refine Ae (hc) ?_ | refine qQb ?_ | refine Ac (fun _ => ?_) (fun _ => ?_))
 exact ⟨Or.inr rfl, _, rfl, rfl⟩
theorem Awp (k : Nat) (hk : 2 ≤ k) (a : Nat) (ha : 2 ≤ a ∧ a < 4096) : FnV (CF k) Pc [nav a] (.bool false) := by
 have hc := rF (k - 1) (by omega) a
 rw [As ha] at hc
 unfold nav
 refine fnk (by omega) oW rfl ?_
 unfold Wt
 repeat' (first | refine qS ?_ | refine Ae hc ?_ | refine qQb ?_ | fail)
 exact ⟨Or.inr rfl, _, rfl, rfl⟩
theorem uK (k : Nat) (hk : 10 ≤ k) (t f : Bool) (s : Nat) (v : AV) : FnV (CF k) Ip [.islc t f s [], v] (.int .i64 (-1)) := by
 refine fnk (by omega) Lk rfl ?_
 unfold Gz
 repeat' (first | refine qQb ?_ | refine Ac (fun _ => ?_) (fun _ => ?_))
 refine Km (w_it (by omega) ?_)
 repeat' (first | refine qQb ?_ | refine Ac (fun _ => ?_) (fun _ => ?_))
 exact ⟨Or.inr rfl, _, rfl, rfl⟩
theorem kG (k : Nat) (hk : 11 ≤ k) (t f : Bool) (s : Nat) (fn : Nat) (caps : List AV) (hz : ∀ H, caps.map (fz false 5 H) = caps) : FnV (CF k) Fo [.islc t f s [], .fn fn caps] (.bool false) := by
 have hi := uK (k - 1) (by omega) t f s (.fn fn caps)
 refine fnk (by omega) Kk rfl ?_
 unfold Ga
 repeat' (first | refine qS ?_ | refine Ae hi ?_ rfl (by show [_, AV.fn fn (caps.map (fz false 5 _))] = _; rw [hz]; rfl) | refine qQb ?_ | refine Ac (fun _ => ?_) (fun _ => ?_))
 exact ⟨Or.inr rfl, _, rfl, rfl⟩
def zJ (l : List Nat) : Prop := ∀ i, i + 1 < l.length → l.getD i default < l.getD (i + 1) default
theorem Adn {k : Nat} {free : List Nat} {f : Bool} {T : Tmps} {H : Heap} (hk : 1000000 ≤ k) (hl : free.length ≤ 4096) (hr : zJ free)
  (hT : Has T [(5, .islc false f 1 (NL free)), (13, .bool false), (53, .int .i64 free.length), (54, .int .i64 0)]) :
  W (Br (CF k) noX 0 k (.loop cR) T H) (fun ex T' H' => ex = .exit 0 ∧ T' 13 = .bool false) := by
 refine Fj free.length (fun i T' H' => Has T' [(5, .islc false f 1 (NL free)), (13, .bool false), (53, .int .i64 free.length), (54, .int .i64 (i : Nat))]) hT (by omega) ?_
 rintro i T H hi hT
 rw [hT.eq]
 simp only [over]
 unfold cR
 by_cases hil : i < free.length
 ·by_cases h0 : i = 0
  ·subst h0
   repeat' (first | refine qS ?_ | refine qN ?_ | refine qQb ?_ | refine Ac (fun _ => ?_) (fun _ => ?_))
   exact ⟨hil, rfl, rfl, rfl, by show AV.int _ _ = AV.int _ _; congr 1, trivial⟩
  ·have hlt := hr (i - 1) (by omega)
   rw [show i - 1 + 1 = i by omega] at hlt
   obtain ⟨a, ha⟩ : ∃ a, a = free.getD (i - 1) default := ⟨_, rfl⟩
   obtain ⟨b, hb⟩ : ∃ b, b = free.getD i default := ⟨_, rfl⟩
   rw [← ha, ← hb] at hlt
   have ha2 : free.getD ((i : Int) - 1).toNat default = a := by rw [show ((i : Int) - 1).toNat = i - 1 by omega]; exact ha.symm
   have hb2 : free.getD (i : Int).toNat default = b := by rw [show (i : Int).toNat = i by omega]; exact hb.symm
   repeat' (first
    | refine qS ?_ | refine qN ?_ | refine Ll (enc := nav) a rfl rfl (by omega) (by omega) ha2 rfl rfl ?_ | refine Ll (enc := nav) b rfl rfl (by omega) (by omega) hb2 rfl rfl ?_
    | refine qQb ?_ | refine Ac (fun _ => ?_) (fun _ => ?_))
   exact ⟨hil, rfl, rfl, rfl, by show AV.int _ _ = AV.int _ _; congr 1, trivial⟩
 ·have hin : i = free.length := by omega
  repeat' (first | refine qS ?_ | refine qN ?_ | refine qQb ?_ | refine Ac (fun _ => ?_) (fun _ => ?_))
  exact ⟨rfl, rfl⟩
theorem yB (k : Nat) (hk : 1000050 ≤ k) (recs : List Rec) (f1 : Bool) (s1 : Nat) (hs1 : s1 = 8 ∨ recs = []) (bl : List Nat) (f2 : Bool) (s2 : Nat) (hs2 : s2 = 1 ∨ bl = []) (n : Nat) (first : Rec) (wth : Bool) (free : List Nat) (f3 : Bool) (hrl : recs.length < 1000) (hbl : bl.length = recs.length) (hn : n ≤ recs.length)
  (hro : ∀ r ∈ recs, r.ok) (hfo : wth = true → ({ first with next := 0 } : Rec).ok) (hb : ∀ a ∈ bl, 2 ≤ a ∧ a < 4096) (hf : ∀ a ∈ free, 2 ≤ a ∧ a < 4096) (hfl : free.length ≤ 4096) (hinc : zJ free) :
  FnV (CF k) iW [.islc false f1 s1 (recs.map Rec.av), .islc false f2 s2 (NL bl), .int .i64 n, first.av, .bool wth, .islc false f3 1 (NL free)] (.bool true) := by
 have hc := Pm (k - 1) (by omega) { first with next := 0 }
 have hcr : FnV (CF (k - 1)) Ck [.islc false f1 s1 (recs.map Rec.av), .fn Pg []] (.bool false) := by
  by_cases hn : recs = []
  ·subst hn
   exact Qp (k - 1) (by omega) false f1 s1 _ _ (fun _ => rfl)
  ·obtain rfl : s1 = 8 := hs1.resolve_right hn
   have := Sg (k - 1) (by omega) false f1 recs Pg [] (fun _ => false) (by omega) (fun _ => rfl) (fun _ _ => rfl) (fun i hi => Awg (k - 3) (by omega) _ (hro _ (by rw [Af, Aa hi]; exact Bw hi)))
   rwa [show (recs.any fun _ => false) = false by simp] at this
 obtain ⟨f', s', hs', hcc⟩ := Aqm (k - 1) (by omega) bl free f2 f3 s2 1 hs2 (.inl rfl) (by omega)
 have hcn : FnV (CF (k - 1)) Fo [.islc false f' s' (NL (bl ++ free)), .fn Pc []] (.bool false) := by
  by_cases hn : bl ++ free = []
  ·rw [hn]
   exact kG (k - 1) (by omega) false f' s' _ _ (fun _ => rfl)
  ·obtain rfl : s' = 1 := hs'.resolve_right hn
   have := Hu (k - 1) (by omega) false f' (bl ++ free) Pc [] (fun _ => false) (by simp; omega) (fun _ => rfl) (fun _ _ => rfl) (fun i hi => Awp (k - 3) (by omega) _ (by
    have hm : (bl ++ free).getD i default ∈ bl ++ free := by rw [Af, Aa hi]; exact Bw hi
    rcases Bi.1 hm with h | h
    ·exact hb _ h
    ·exact hf _ h))
   rwa [show ((bl ++ free).any fun _ => false) = false by simp] at this
 have hlr : (recs.map Rec.av).length = recs.length := Ah _
 obtain ⟨b1, b2, b3, b4, b5, b6, b7, b8⟩ := first
 unfold Rec.av at hc ⊢
 simp only at hc hfo ⊢
 refine fnk (by omega) zQ rfl ?_
 unfold commit_may
 cases wth with
 | true =>
  rw [if_pos (hfo rfl)] at hc
  have hc' : FnV (CF (k - 1)) Tp [.agg [.int .i64 0, .int .i64 b2, .int .i64 b3, .int .i64 b4, .int .i64 b5, .int .i64 b6, .int .i64 b7, .int .i64 b8]] (.int .i64 0) := hc
  repeat' (first
   | refine qS ?_ | refine qN ?_ | refine Ae hcr ?_ | refine Ae hcc ?_ | refine Ae hcn ?_ | refine Bh (n := recs.length) rfl hlr rfl rfl ?_
   | refine Bh (n := bl.length) rfl (Bm _) rfl rfl ?_ | refine Bh (n := free.length) rfl (Bm _) rfl rfl ?_ | refine Al (hc') (fun _ => ?_) (fun _ => ?_)
   | refine Ae (hc') ?_ | refine qQb ?_ | refine Ac (fun _ => ?_) (fun _ => ?_))
  refine W.mono (Adn (k := k - 1) (free := free) (f := f3) (by omega) hfl hinc ?_) ?_
  ·exact ⟨rfl, rfl, rfl, rfl, trivial⟩
  rintro ex T2 H2 ⟨rfl, h13⟩
  rw [Has.eq (T := T2) (ps := [(13, _)]) ⟨h13, trivial⟩]
  simp only [over]
  show W _ _
  repeat' (first | refine qS ?_ | refine qN ?_ | refine qQb ?_ | refine Ac (fun _ => ?_) (fun _ => ?_))
  exact ⟨Or.inr rfl, _, rfl, rfl⟩
 | false =>
  repeat' (first
   | refine qS ?_ | refine qN ?_ | refine Ae hcr ?_ | refine Ae hcc ?_ | refine Ae hcn ?_ | refine Bh (n := recs.length) rfl hlr rfl rfl ?_
   | refine Bh (n := bl.length) rfl (Bm _) rfl rfl ?_ | refine Bh (n := free.length) rfl (Bm _) rfl rfl ?_ | refine qQb ?_ | refine Ac (fun _ => ?_) (fun _ => ?_))
  refine W.mono (Adn (k := k - 1) (free := free) (f := f3) (by omega) hfl hinc ?_) ?_
  ·exact ⟨rfl, rfl, rfl, rfl, trivial⟩
  rintro ex T2 H2 ⟨rfl, h13⟩
  rw [Has.eq (T := T2) (ps := [(13, _)]) ⟨h13, trivial⟩]
  simp only [over]
  show W _ _
  repeat' (first | refine qS ?_ | refine qN ?_ | refine qQb ?_ | refine Ac (fun _ => ?_) (fun _ => ?_))
  exact ⟨Or.inr rfl, _, rfl, rfl⟩
end Go.Proofs.YtkaiiopoilpjeaaGreat
set_option maxRecDepth 10000
set_option maxHeartbeats 16000000
namespace Go.AI
section
variable {cf : Dk} {xf : ExtF} {base : Nat} {T : Tmps} {H : Heap} {QO : Tmps → Heap → Prop} {log : List FP} {g : Option (Nat × Bool)} {un : List Nat} {r : List SOper} {d : Nat} {t f : Bool}
theorem vU {α : Type} [Inhabited α] {enc : α → AV} {l : List α} {a : α} {j g0 ver i s : Nat} {x y : SArg} (hx : x.ev T = .ptr j g0 ver s i 0) (hr : H j = ⟨g0, false, .row s (l.map enc)⟩) (hv0 : l.length = ver) (hi : i < l.length) (hy : y.ev T = enc a) (hs : ∀ a, Et (enc a) = true) (hc : ∀ a, (enc a).cells.length = s)
  (hrw : ∀ e a, (enc e).rewrap (enc a).cells = enc a) (hw : Aj T g = some true) (hl : Bn log ⟨[j], [j], false⟩ un = true) (h : WO (aops cf xf base r (log ++ [⟨[j], [j], false⟩]) T (H.upd j ⟨g0, false, .row s ((l.set i a).map enc)⟩)) QO) :
  WO (aops cf xf base (⟨none, .store s x y, g, un⟩ :: r) log T H) QO := by
 refine lA hx hr (by simpa using hv0) (nZ enc l hi) hy (hs a) rfl (hc a) (by rw [hc]; omega) hw hl ?_
 rw [Nr, Dd, Ce (by rw [hc]; omega), Bv, hrw, ← List.map_set]
 exact h
end
end Go.AI
namespace Go.Proofs.YtkaiiopoilpjeaaGreat
open Go.AI
theorem Rec.st : ∀ a : Rec, Et a.av = true := fun ⟨_, _, _, _, _, _, _, _⟩ => rfl
theorem Rec.cl : ∀ a : Rec, a.av.cells.length = 8 := fun ⟨_, _, _, _, _, _, _, _⟩ => rfl
theorem Rec.rw : ∀ e a : Rec, e.av.rewrap a.av.cells = a.av := fun ⟨_, _, _, _, _, _, _, _⟩ ⟨_, _, _, _, _, _, _, _⟩ => rfl
theorem Rec.ld : ∀ a : Rec, AV.agg (a.av.cells.take 8) = a.av := fun ⟨_, _, _, _, _, _, _, _⟩ => rfl
theorem Rec.nr : ∀ a : Rec, a.av.norefs = true := fun ⟨_, _, _, _, _, _, _, _⟩ => rfl
def revd (l m : List Rec) (i : Nat) : Prop := m.length = l.length ∧ ∀ x, x < l.length → m.getD x default = if x < i ∨ l.length - i ≤ x then l.getD (l.length - 1 - x) default else l.getD x default
theorem Akb {l m : List Rec} {i : Nat} (h : revd l m i) (hi : i + i + 1 < l.length) : revd l ((m.set i (m.getD (l.length - 1 - i) default)).set (l.length - 1 - i) (m.getD i default)) (i + 1) := by
 obtain ⟨h1, h2⟩ := h
 refine ⟨by simp [h1], fun x hx => ?_⟩
 have e1 := h2 i (by omega)
 have e2 := h2 (l.length - 1 - i) (by omega)
 have e3 := h2 x hx
 rw [if_neg (by omega)] at e1 e2
 simp only [Af, List.getElem?_set, El, h1] at e1 e2 e3 ⊢
 by_cases hxi : x = i
 ·subst hxi
  rw [if_neg (by omega), if_pos rfl, if_pos (by omega)]
  simp only [Ns]
  rw [e2, if_pos (by omega)]
 ·by_cases hxj : x = l.length - 1 - i
  ·subst hxj
   rw [if_pos rfl, if_pos (by omega)]
   simp only [Ns]
   rw [e1, if_pos (by omega), show l.length - 1 - (l.length - 1 - i) = i by omega]
  ·rw [if_neg (by omega), if_neg (by omega), e3]
   by_cases hc : x < i ∨ l.length - i ≤ x
   ·rw [if_pos hc, if_pos (by omega)]
   ·rw [if_neg hc, if_neg (by omega)]
theorem Arq {l m : List Rec} {i : Nat} (h : revd l m i) (hi : l.length ≤ i + i + 1) : m = l.reverse := by
 obtain ⟨h1, h2⟩ := h
 refine Yg (by simp [h1]) fun x hx hx2 => ?_
 have e3 := h2 x (by omega)
 simp only [Af, Aa hx, Ns] at e3
 rw [e3, List.getElem_reverse]
 by_cases hc : x < i ∨ l.length - i ≤ x
 ·rw [if_pos hc, Aa (by omega)]; rfl
 ·rw [if_neg hc, Aa (by omega)]
  simp only [Ns]
  congr 1
  omega
attribute [local irreducible] aops Br Cp Dp aop W WO
theorem xO (k : Nat) (hk : 1000000 < k) (l : List Rec) (hl : l.length < 1000) (H : Heap) (hH : H 5 = ⟨1, false, .row 8 (l.map Rec.av)⟩) :
  ∃ u H', CF k Cs 6 [.slc 5 1 l.length 8 0 l.length none] H = some (u, H') ∧ H' = H.upd 5 ⟨1, false, .row 8 (l.reverse.map Rec.av)⟩ := by
 have hu : ∀ m : List Rec, (H.upd 5 ⟨1, false, .row 8 (m.map Rec.av)⟩) 5 = ⟨1, false, .row 8 (m.map Rec.av)⟩ := fun m => Heap.upd_same _ _ _
 have huu : ∀ a b : Blk, (H.upd 5 a).upd 5 b = H.upd 5 b := fun a b => by
  funext i
  by_cases hi : i = 5
  ·subst hi; rw [Heap.upd_same, Heap.upd_same]
  ·rw [Heap.upd_eq, if_neg hi, Heap.upd_eq, if_neg hi, Heap.upd_eq, if_neg hi]
 have hsame : H = H.upd 5 ⟨1, false, .row 8 (l.map Rec.av)⟩ := by
  funext i
  by_cases hi : i = 5
  ·subst hi; rw [Heap.upd_same]; exact hH
  ·rw [Heap.upd_eq, if_neg hi]
 refine fni (by omega) Hr rfl ?_
 unfold Eo
 repeat' (first | refine qQb ?_ | refine Ac (fun _ => ?_) (fun _ => ?_))
 refine Fj 1000 (fun i T' H' => ∃ m, revd l m i ∧ i ≤ l.length ∧ H' = H.upd 5 ⟨1, false, .row 8 (m.map Rec.av)⟩ ∧ Has T' [(0, .slc 5 1 l.length 8 0 l.length none), (2, .int .i64 (i : Nat)), (3, .int .i64 ((l.length : Int) - 1 - (i : Nat)))])
  ⟨l, ⟨rfl, fun x hx => by rw [if_neg (by omega)]⟩, by omega, hsame, rfl, rfl, by show AV.int _ _ = AV.int _ _; congr 1; omega, trivial⟩ (by omega) ?_
 rintro i T H' hi ⟨m, hrv, hil0, rfl, hT⟩
 rw [hT.eq]
 simp only [over]
 have hml := hrv.1
 by_cases hil : i + i + 1 < l.length
 ·have hst := Akb hrv hil
  obtain ⟨a, ha⟩ : ∃ a, a = m.getD i default := ⟨_, rfl⟩
  obtain ⟨b, hb⟩ : ∃ b, b = m.getD (l.length - 1 - i) default := ⟨_, rfl⟩
  rw [← ha, ← hb] at hst
  have hjx : ((l.length : Int) - 1 - (i : Nat)).toNat = l.length - 1 - i := by omega
  have ha2 : m.getD (0 + (i : Int).toNat) default = a := by rw [show 0 + (i : Int).toNat = i by omega]; exact ha.symm
  have hb2 : m.getD (0 + ((l.length : Int) - 1 - (i : Nat)).toNat) default = b := by rw [hjx, Cq]; exact hb.symm
  have hmm : (m.map Rec.av).length = l.length := by rw [Ah]; exact hml
  have hmm2 : ((m.set (0 + (i : Int).toNat) b).map Rec.av).length = l.length := by simp [hml]
  repeat' (first
   | refine qS ?_ | refine Ds rfl rfl (hu m) hmm (by omega) (by omega) (by omega) rfl rfl ?_
   | refine Lt (enc := Rec.av) (l := m) (v := a.av) ?_ (hr := by exact hu m) (hv0 := by exact hml) (hv := by rw [ha2]; exact Rec.ld a) (hk := by rw [Rec.cl]; exact Au _)
   | refine Lt (enc := Rec.av) (l := m) (v := b.av) ?_ (hr := by exact hu m) (hv0 := by exact hml) (hv := by rw [hb2]; exact Rec.ld b) (hk := by rw [Rec.cl]; exact Au _)
   | refine Ds rfl rfl (by rfl) hmm2 (by omega) (by omega) (by omega) rfl rfl ?_
   | refine vU (enc := Rec.av) (l := m) (a := b) rfl (hu m) hml (by omega) rfl Rec.st Rec.cl Rec.rw rfl rfl ?_
   | refine vU (enc := Rec.av) (l := m.set (0 + (i : Int).toNat) b) (a := a) rfl (by rw [huu]; exact hu _) (by simp [hml]) (by simp [hml]; omega) rfl Rec.st Rec.cl Rec.rw rfl rfl ?_
   | refine qQb ?_ | refine Ac (fun _ => ?_) (fun _ => ?_))
  refine ⟨by omega, (m.set i b).set (l.length - 1 - i) a, hst, by omega, ?_, rfl, by show AV.int _ _ = AV.int _ _; congr 1, by show AV.int _ _ = AV.int _ _; congr 1; omega, trivial⟩
  show ((H.upd 5 _).upd 5 _).upd 5 ⟨1, false, .row 8 (((m.set (0 + (i : Int).toNat) b).set (0 + ((l.length : Int) - 1 - (i : Nat)).toNat) a).map Rec.av)⟩ = _
  rw [huu, huu, show 0 + (i : Int).toNat = i by omega, show 0 + ((l.length : Int) - 1 - (i : Nat)).toNat = l.length - 1 - i by omega]
 ·have hfin := Arq hrv (by omega)
  repeat' (first | refine qQb ?_ | refine Ac (fun _ => ?_) (fun _ => ?_))
  exact ⟨Or.inl rfl, _, rfl, by rw [hfin]⟩
end Go.Proofs.YtkaiiopoilpjeaaGreat
set_option maxRecDepth 10000
set_option maxHeartbeats 16000000
namespace Go.Proofs.YtkaiiopoilpjeaaGreat
open Go.AI
attribute [local irreducible] aops Br Cp Dp aop W WO
def Fy (recs : List Rec) (n : Nat) (first : Rec) (wth : Bool) : List Rec := (recs.take (n - 1)).reverse ++ (if wth = true then [first] else [])
def Ec : List Rec → List Nat → Nat → List IoV
 | r :: rs, a :: fs, p => wIo a (recB { r with next := p }) :: Ec rs fs a
 | [], _, _ => []
 | _ :: _, [], _ => []
def Ez : List Rec → List Nat → Nat → Nat
 | _ :: rs, a :: fs, _ => Ez rs fs a
 | [], _, p => p
 | _ :: _, [], p => p
def kH (anew : List Rec) (free : List Nat) (p : Nat) : AV :=
 if free.length < anew.length then .tup [.islc false false 3 [], .int .i64 0, .islc false false 1 [], .int .i64 9]
 else .tup [.islc false false 3 ((Ec anew free p).map IoV.av), .int .i64 (Ez anew free p), .islc false false 1 (NL (free.drop anew.length)), .int .i64 0]
theorem Tq : ∀ (rs : List Rec) (fs : List Nat) (p : Nat), ∀ x ∈ Ec rs fs p, x.t = false
 | [], _, _, x, h => by cases h
 | _ :: _, [], _, x, h => by cases h
 | r :: rs, a :: fs, p, x, h => by
  simp only [Ec] at h
  rcases Ap.1 h with rfl | h
  ·rfl
  ·exact Tq rs fs a x h
theorem Afs (k : Nat) (hk : 1000 < k) (t f : Bool) (s : Nat) (H : Heap) : CF k Cs 6 [.islc t f s []] H = some (.undef, H) ∨ ∃ u, CF k Cs 6 [.islc t f s []] H = some (u, H) := by
 refine .inr ?_
 have h : ∃ u H', CF k Cs 6 [.islc t f s []] H = some (u, H') ∧ H' = H := by
  refine fni (by omega) Hr rfl ?_
  unfold Eo
  repeat' (first | refine qS ?_ | refine Bh (n := 0) rfl rfl rfl rfl ?_ | refine qQb ?_ | refine Ac (fun _ => ?_) (fun _ => ?_))
  refine Km (w_it (by omega) ?_)
  repeat' (first | refine qQb ?_ | refine Ac (fun _ => ?_) (fun _ => ?_))
  exact ⟨Or.inl rfl, _, rfl, rfl⟩
 obtain ⟨u, H', h1, rfl⟩ := h
 exact ⟨u, h1⟩
theorem Xa {k : Nat} {anew : List Rec} {free : List Nat} {f3 : Bool} {p0 : Nat} {T : Tmps} {H : Heap} (hk : 1000050 ≤ k) (hm : anew.length < 1000) (hfl : anew.length ≤ free.length) (hfl2 : free.length ≤ 4096) (hro : ∀ r ∈ anew, ({ r with next := 0 } : Rec).ok) (hf : ∀ a ∈ free, 2 ≤ a ∧ a < 4096) (hp : ptrOk p0)
  (hj : H 5 = ⟨1, false, .row 8 (anew.map Rec.av)⟩) (h1 : H 1 = ⟨1, false, .row 3 []⟩)
  (hT : Has T [(5, .islc false f3 1 (NL free)), (12, .slc 1 1 0 3 0 0 none), (13, .int .i64 p0), (16, .slc 5 1 anew.length 8 0 anew.length none), (55, .slc 5 1 anew.length 8 0 anew.length none), (56, .int .i64 anew.length), (57, .int .i64 0)]) :
  W (Br (CF k) noX 0 k (.loop Mk) T H) (fun ex T' H' => ex = .exit 0 ∧ (Ec anew free p0).length = anew.length ∧ H' 1 = ⟨1, false, .row 3 ((Ec anew free p0).map IoV.av)⟩ ∧
   Has T' [(5, .islc false f3 1 (NL free)), (12, .slc 1 1 anew.length 3 0 anew.length none), (13, .int .i64 (Ez anew free p0)), (16, .slc 5 1 anew.length 8 0 anew.length none)]) := by
 refine Fj anew.length (fun i T' H' => ∃ (out : List IoV) (p : Nat), out.length = i ∧ ptrOk p ∧ Ec anew free p0 = out ++ Ec (anew.drop i) (free.drop i) p ∧ Ez anew free p0 = Ez (anew.drop i) (free.drop i) p ∧ H' 5 = ⟨1, false, .row 8 (anew.map Rec.av)⟩ ∧ H' 1 = ⟨1, false, .row 3 (out.map IoV.av)⟩ ∧
   Has T' [(5, .islc false f3 1 (NL free)), (12, .slc 1 1 i 3 0 i none), (13, .int .i64 p), (16, .slc 5 1 anew.length 8 0 anew.length none), (55, .slc 5 1 anew.length 8 0 anew.length none), (56, .int .i64 anew.length), (57, .int .i64 (i : Nat))])
  ⟨[], p0, rfl, hp, rfl, rfl, hj, h1, hT⟩ (by omega) ?_
 rintro i T H hi ⟨out, p, hol, hpp, hgo, hge, gj, g1, hT⟩
 rw [hT.eq]
 simp only [over]
 unfold Mk
 by_cases hil : i < anew.length
 ·have hif : i < free.length := by omega
  rw [Cm hil, Cm hif] at hgo hge
  obtain ⟨a, ha⟩ : ∃ a, a = free[i] := ⟨_, rfl⟩
  obtain ⟨⟨b1, b2, b3, b4, b5, b6, b7, b8⟩, hr⟩ : ∃ r, r = anew[i] := ⟨_, rfl⟩
  have hab := hf free[i] (Bw hif)
  have hrk := hro anew[i] (Bw hil)
  rw [← ha, ← hr] at hgo hge
  rw [← ha] at hab
  rw [← hr] at hrk
  simp only [Ec, Ez] at hgo hge
  have hok : (⟨p, b2, b3, b4, b5, b6, b7, b8⟩ : Rec).ok := ⟨hpp, hrk.2⟩
  have hb := Zq k (by omega) ⟨p, b2, b3, b4, b5, b6, b7, b8⟩
  rw [if_pos hok] at hb
  have hb' : FnV (CF k) Qb [.agg [.int .i64 p, .int .i64 b2, .int .i64 b3, .int .i64 b4, .int .i64 b5, .int .i64 b6, .int .i64 b7, .int .i64 b8]] (.tup [.islc false false 1 (BL (recB ⟨p, b2, b3, b4, b5, b6, b7, b8⟩)), .int .i64 0]) := hb
  have hml : (anew.map Rec.av).length = anew.length := Ah _
  have he : (anew.map Rec.av)[0 + (i : Int).toNat]? = some (.agg [.int .i64 b1, .int .i64 b2, .int .i64 b3, .int .i64 b4, .int .i64 b5, .int .i64 b6, .int .i64 b7, .int .i64 b8]) := by
   rw [show 0 + (i : Int).toNat = i by omega, Bp, Aa hil, ← hr]; rfl
  have ha2 : free.getD (i : Int).toNat default = a := by rw [Bd, ha]; simp [hif]
  have hol2 : (out.map IoV.av).length = i := by rw [Ah]; exact hol
  repeat' (first
   | refine qS ?_ | refine Ds rfl rfl (by exact gj) hml (by omega) (by omega) (by omega) rfl rfl ?_
   | refine Ps (.agg [.int .i64 b1, .int .i64 b2, .int .i64 b3, .int .i64 b4, .int .i64 b5, .int .i64 b6, .int .i64 b7, .int .i64 b8]) rfl (by exact gj) hml he (Ax rfl) rfl rfl rfl ?_
   | refine Ll (enc := nav) a rfl rfl (by omega) (by omega) ha2 rfl rfl ?_ | refine Lm rfl rfl rfl (by exact g1) hol2 rfl (by omega) rfl rfl (fun _ => ?_)
   | refine Al (hb') (fun _ => ?_) (fun _ => ?_) | refine Ae (hb') ?_ | refine qQb ?_ | refine Ac (fun _ => ?_) (fun _ => ?_) | refine Bl fun _ => ?_)
  refine ⟨hil, out ++ [wIo a (recB ⟨p, b2, b3, b4, b5, b6, b7, b8⟩)], a, by simp [hol], .inr hab, by rw [hgo, Cf]; rfl, hge, gj, by rw [Bq]; rfl, rfl, rfl, rfl, rfl, rfl, rfl, by show AV.int _ _ = AV.int _ _; congr 1, trivial⟩
 ·have hin : i = anew.length := by omega
  repeat' (first | refine qQb ?_ | refine Ac (fun _ => ?_) (fun _ => ?_) | refine Bl fun _ => ?_)
  subst hin
  rw [Lh] at hgo hge
  simp only [Ec, Ez, Bv] at hgo hge
  rw [hgo, hge]
  exact ⟨rfl, hol, g1, rfl, rfl, rfl, rfl, trivial⟩
theorem sR {k : Nat} {anew : List Rec} {free : List Nat} {f3 : Bool} {p0 : Nat} {T : Tmps} {H : Heap} (hk : 1000050 ≤ k) (hm : anew.length < 1000) (hfl : anew.length ≤ free.length) (hfl2 : free.length ≤ 4096) (hro : ∀ r ∈ anew, ({ r with next := 0 } : Rec).ok) (hf : ∀ a ∈ free, 2 ≤ a ∧ a < 4096) (hp : ptrOk p0)
  (hj : H 7 = ⟨1, false, .row 8 (anew.map Rec.av)⟩) (h1 : H 1 = ⟨1, false, .row 3 []⟩)
  (hT : Has T [(5, .islc false f3 1 (NL free)), (12, .slc 1 1 0 3 0 0 none), (13, .int .i64 p0), (16, .slc 7 1 anew.length 8 0 anew.length none), (55, .slc 7 1 anew.length 8 0 anew.length none), (56, .int .i64 anew.length), (57, .int .i64 0)]) :
  W (Br (CF k) noX 0 k (.loop Mk) T H) (fun ex T' H' => ex = .exit 0 ∧ (Ec anew free p0).length = anew.length ∧ H' 1 = ⟨1, false, .row 3 ((Ec anew free p0).map IoV.av)⟩ ∧
   Has T' [(5, .islc false f3 1 (NL free)), (12, .slc 1 1 anew.length 3 0 anew.length none), (13, .int .i64 (Ez anew free p0)), (16, .slc 7 1 anew.length 8 0 anew.length none)]) := by
 refine Fj anew.length (fun i T' H' => ∃ (out : List IoV) (p : Nat), out.length = i ∧ ptrOk p ∧ Ec anew free p0 = out ++ Ec (anew.drop i) (free.drop i) p ∧ Ez anew free p0 = Ez (anew.drop i) (free.drop i) p ∧ H' 7 = ⟨1, false, .row 8 (anew.map Rec.av)⟩ ∧ H' 1 = ⟨1, false, .row 3 (out.map IoV.av)⟩ ∧
   Has T' [(5, .islc false f3 1 (NL free)), (12, .slc 1 1 i 3 0 i none), (13, .int .i64 p), (16, .slc 7 1 anew.length 8 0 anew.length none), (55, .slc 7 1 anew.length 8 0 anew.length none), (56, .int .i64 anew.length), (57, .int .i64 (i : Nat))])
  ⟨[], p0, rfl, hp, rfl, rfl, hj, h1, hT⟩ (by omega) ?_
 rintro i T H hi ⟨out, p, hol, hpp, hgo, hge, gj, g1, hT⟩
 rw [hT.eq]
 simp only [over]
 unfold Mk
 by_cases hil : i < anew.length
 ·have hif : i < free.length := by omega
  rw [Cm hil, Cm hif] at hgo hge
  obtain ⟨a, ha⟩ : ∃ a, a = free[i] := ⟨_, rfl⟩
  obtain ⟨⟨b1, b2, b3, b4, b5, b6, b7, b8⟩, hr⟩ : ∃ r, r = anew[i] := ⟨_, rfl⟩
  have hab := hf free[i] (Bw hif)
  have hrk := hro anew[i] (Bw hil)
  rw [← ha, ← hr] at hgo hge
  rw [← ha] at hab
  rw [← hr] at hrk
  simp only [Ec, Ez] at hgo hge
  have hok : (⟨p, b2, b3, b4, b5, b6, b7, b8⟩ : Rec).ok := ⟨hpp, hrk.2⟩
  have hb := Zq k (by omega) ⟨p, b2, b3, b4, b5, b6, b7, b8⟩
  rw [if_pos hok] at hb
  have hb' : FnV (CF k) Qb [.agg [.int .i64 p, .int .i64 b2, .int .i64 b3, .int .i64 b4, .int .i64 b5, .int .i64 b6, .int .i64 b7, .int .i64 b8]] (.tup [.islc false false 1 (BL (recB ⟨p, b2, b3, b4, b5, b6, b7, b8⟩)), .int .i64 0]) := hb
  have hml : (anew.map Rec.av).length = anew.length := Ah _
  have he : (anew.map Rec.av)[0 + (i : Int).toNat]? = some (.agg [.int .i64 b1, .int .i64 b2, .int .i64 b3, .int .i64 b4, .int .i64 b5, .int .i64 b6, .int .i64 b7, .int .i64 b8]) := by
   rw [show 0 + (i : Int).toNat = i by omega, Bp, Aa hil, ← hr]; rfl
  have ha2 : free.getD (i : Int).toNat default = a := by rw [Bd, ha]; simp [hif]
  have hol2 : (out.map IoV.av).length = i := by rw [Ah]; exact hol
  repeat' (first
   | refine qS ?_ | refine Ds rfl rfl (by exact gj) hml (by omega) (by omega) (by omega) rfl rfl ?_
   | refine Ps (.agg [.int .i64 b1, .int .i64 b2, .int .i64 b3, .int .i64 b4, .int .i64 b5, .int .i64 b6, .int .i64 b7, .int .i64 b8]) rfl (by exact gj) hml he (Ax rfl) rfl rfl rfl ?_
   | refine Ll (enc := nav) a rfl rfl (by omega) (by omega) ha2 rfl rfl ?_ | refine Lm rfl rfl rfl (by exact g1) hol2 rfl (by omega) rfl rfl (fun _ => ?_)
   | refine Al (hb') (fun _ => ?_) (fun _ => ?_) | refine Ae (hb') ?_ | refine qQb ?_ | refine Ac (fun _ => ?_) (fun _ => ?_) | refine Bl fun _ => ?_)
  refine ⟨hil, out ++ [wIo a (recB ⟨p, b2, b3, b4, b5, b6, b7, b8⟩)], a, by simp [hol], .inr hab, by rw [hgo, Cf]; rfl, hge, gj, by rw [Bq]; rfl, rfl, rfl, rfl, rfl, rfl, rfl, by show AV.int _ _ = AV.int _ _; congr 1, trivial⟩
 ·have hin : i = anew.length := by omega
  repeat' (first | refine qQb ?_ | refine Ac (fun _ => ?_) (fun _ => ?_) | refine Bl fun _ => ?_)
  subst hin
  rw [Lh] at hgo hge
  simp only [Ec, Ez, Bv] at hgo hge
  rw [hgo, hge]
  exact ⟨rfl, hol, g1, rfl, rfl, rfl, rfl, trivial⟩
end Go.Proofs.YtkaiiopoilpjeaaGreat
