import Derived.Test.YtkpndfkpdnknkaaGreatJ12
import Derived.Test.YtkpndfkpdnknkaaGreatG4
set_option linter.unusedSimpArgs false
set_option linter.unusedVariables false
set_option maxRecDepth 10000
set_option maxHeartbeats 16000000
namespace Go.AI
section
variable {cf : Dh} {xf : ExtF} {base : Nat} {T : Tmps} {H : Heap} {QO : Tmps → Heap → Prop} {log : List FP} {g : Option (Nat × Bool)} {un : List Nat} {r : List SOper} {d : Nat} {t f : Bool}
theorem gW {site gn j v j2 g2 s n : Nat} {ro : Bool} {x y : SArg} {es m : List AV} {cap2 : Option Nat} (hx : x.ev T = .slc j gn v s 0 v .none) (hy : y.ev T = .slc j2 g2 n s 0 n cap2) (h2 : H j2 = ⟨g2, ro, .row s m⟩) (hr : H j = ⟨gn, false, .row s es⟩) (hn : m.length = n) (hm0 : Ix m = false) (hv : es.length = v) (he : Cf m = true) (hm : v + n ≤ 68719476736)
  (hw : Ai T g = some true) (hl : un = [])
  (h : ∀ fp, WO (aops cf xf base r (log ++ [fp]) (T.upd d (.slc j gn (v + n) s 0 (v + n) .none)) (H.upd j ⟨gn, false, .row s (es ++ m)⟩)) QO) :
  WO (aops cf xf base (⟨some d, .app site s x y, g, un⟩ :: r) log T H) QO := by
 subst hl
 subst hn
 refine Bg (v := .slc j gn (v + m.length) s 0 (v + m.length) .none) (H' := H.upd j ⟨gn, false, .row s (es ++ m)⟩) (fp := ⟨[j2] ++ [] ++ [j], [] ++ [j], false⟩) hw ?_ rfl (h _)
 have e1 : Cy H s (.slc j2 g2 m.length s 0 m.length cap2) = some (m, [j2]) := by
  simp [Cy, Ev (ver := m.length) h2 rfl]
 have e2 : Fp H m = some (m, H, []) := by
  cases m with
  | nil => cases hm0
  | cons a m => simp [Fp, he]
 simp only [aop, hx, hy, Ka, e1, e2, Ad, Ac]
 simp only [Dw, hm0, Bd, Cp, Kp hr hv]
 rw [if_pos ⟨trivial, by omega, by simpa [Iv] using hm⟩]
 rw [if_neg (by cases m with | nil => cases hm0 | cons a m => simp)]
 rw [if_pos ⟨trivial, trivial⟩, Hl hr]
 rfl
end
end Go.AI
namespace Go.Proofs.YtkpndfkpdnknkaaGreat
open Go.AI
attribute [local irreducible] aops Bp Cs Df aop W WO
theorem rL (k : Nat) (hk : 10 ≤ k) (s : Sup) (slot : Nat) (f : Bool) (s' : Nat) (es : List AV) (hs : s.ok) (hi : slot ≤ 1) : FnV (CF k) bR [.agg [.int .i64 s.gen, .int .i64 s.blocks, .int .i64 s.root, .int .i64 s.size, .int .i64 s.first, .int .i64 slot, .islc false f s' es]] (.bool (decide (s.gen < 1099511627776))) := by
 have hc := Wl (k - 1) (by omega) s (Sup.ok_lt hs)
 rw [if_pos hs] at hc
 have hg := hs.1
 obtain ⟨g, b, r, z, fi⟩ := s
 unfold Sup.av at hc
 simp only at hc hg ⊢
 refine fnk (by omega) rQ rfl ?_
 unfold Yt
 by_cases h : g < 1099511627776
 ·rw [An h]
  by_cases h0 : slot = 0
  ·subst h0
   repeat' (first | refine qS ?_ | refine qN ?_ | refine Bf (hc) (fun _ => ?_) (fun _ => ?_) | refine Ab (hc) ?_ | refine qQb ?_ | refine Af (fun _ => ?_) (fun _ => ?_))
   exact ⟨Or.inr rfl, _, rfl, rfl⟩
  ·obtain rfl : slot = 1 := by omega
   repeat' (first | refine qS ?_ | refine qN ?_ | refine Bf (hc) (fun _ => ?_) (fun _ => ?_) | refine Ab (hc) ?_ | refine qQb ?_ | refine Af (fun _ => ?_) (fun _ => ?_))
   exact ⟨Or.inr rfl, _, rfl, rfl⟩
 ·rw [Ba h]
  repeat' (first | refine qS ?_ | refine qN ?_ | refine Bf (hc) (fun _ => ?_) (fun _ => ?_) | refine Ab (hc) ?_ | refine qQb ?_ | refine Af (fun _ => ?_) (fun _ => ?_))
  exact ⟨Or.inr rfl, _, rfl, rfl⟩
def okIo (n : Nat) (x : IoV) : Prop := x.kind = 1 ∧ (2 ≤ x.at0 ∧ x.at0 < n) ∧ x.data.length = 64
theorem sT (k : Nat) (hk : 1 ≤ k) (x : IoV) (n : Nat) (h : okIo n x) : FnV (CF k) aG [x.av, .int .i64 n] (.bool true) := by
 obtain ⟨kd, a, d, t, f, s⟩ := x
 obtain ⟨h1, h2, h3⟩ := h
 simp only at h1 h2 h3
 refine fnk (by omega) uC rfl ?_
 unfold Yv IoV.av
 simp only
 repeat' (first | refine qS ?_ | refine qN ?_ | refine Bi (n := d.length) rfl (by simp) rfl rfl ?_ | refine qQb ?_ | refine Af (fun _ => ?_) (fun _ => ?_))
 exact ⟨Or.inr rfl, _, rfl, rfl⟩
theorem Aoa (k : Nat) (hk : 2 ≤ k) (x : IoV) (n : Nat) (a0 a2 a3 a4 : AV) (h : okIo n x) : FnV (CF k) Na [x.av, .iptr true [a0, .int .i64 n, a2, a3, a4]] (.bool false) := by
 have hw := sT (k - 1) (by omega) x n h
 obtain ⟨kd, a, d, t, f, s⟩ := x
 unfold IoV.av at hw ⊢
 simp only at hw ⊢
 refine fnk (by omega) lI rfl ?_
 unfold Un
 repeat' (first | refine qS ?_ | refine Ab hw ?_ | refine qQb ?_ | fail)
 exact ⟨Or.inr rfl, _, rfl, rfl⟩
theorem xI (k : Nat) (hk : 10 ≤ k) (t f : Bool) (s : Nat) (v : AV) : FnV (CF k) Gm [.islc t f s [], v] (.int .i64 (-1)) := by
 refine fnk (by omega) Jp rfl ?_
 unfold Fc
 repeat' (first | refine qQb ?_ | refine Af (fun _ => ?_) (fun _ => ?_))
 refine Nz (w_it (by omega) ?_)
 repeat' (first | refine qQb ?_ | refine Af (fun _ => ?_) (fun _ => ?_))
 exact ⟨Or.inr rfl, _, rfl, rfl⟩
theorem Xm (k : Nat) (hk : 11 ≤ k) (t f : Bool) (s : Nat) (fn : Nat) (caps : List AV) (hz : ∀ H, caps.map (fz false 5 H) = caps) : FnV (CF k) Dk [.islc t f s [], .fn fn caps] (.bool false) := by
 have hi := xI (k - 1) (by omega) t f s (.fn fn caps)
 refine fnk (by omega) Iq rfl ?_
 unfold Ep
 repeat' (first | refine qS ?_ | refine Ab hi ?_ rfl (by show [_, AV.fn fn (caps.map (fz false 5 _))] = _; rw [hz]; rfl) | refine qQb ?_ | refine Af (fun _ => ?_) (fun _ => ?_))
 exact ⟨Or.inr rfl, _, rfl, rfl⟩
def wIo (a : Nat) (d : List UInt8) : IoV := ⟨1, a, d, false, false, 1⟩
def flushIo : IoV := ⟨2, 0, [], false, true, 0⟩
def Vp (s : Sup) (root size first : Nat) : Sup := ⟨s.gen + 1, s.blocks, root, size, first⟩
def iosW (l : List IoV) : List IoV := l.map fun x => wIo x.at0 x.data
def Eu (s : Sup) (slot : Nat) (ios : List IoV) (root size first : Nat) : List IoV := iosW ios ++ [flushIo, wIo (1 - slot) (supB (Vp s root size first)), flushIo]
theorem Ajo {k : Nat} {ios : List IoV} {t f : Bool} {s' : Nat} {v13 : AV} {b5 : Blk} {T : Tmps} {H : Heap} (hk : 1000000 ≤ k) (hs : s' = 3 ∨ ios = []) (hl : ios.length < 1000) (ho : ∀ x ∈ ios, x.s = 1 ∧ x.data.length = 64) (h5 : H 5 = ⟨1, false, .row 3 []⟩) (h0 : H 0 = b5)
  (hT : Has T [(5, .ptr 0 1 1 7 0 0), (13, v13), (15, .slc 5 1 0 3 0 0 none), (45, .islc t f s' (ios.map IoV.av)), (46, .int .i64 ios.length), (47, .int .i64 0)]) :
  W (Bp (CF k) noX 0 k (.loop Zt) T H) (fun ex T' H' => ex = .exit 0 ∧ H' 0 = b5 ∧ H' 5 = ⟨1, false, .row 3 ((iosW ios).map IoV.av)⟩ ∧ Has T' [(5, .ptr 0 1 1 7 0 0), (13, v13), (15, .slc 5 1 ios.length 3 0 ios.length none)]) := by
 refine Fa ios.length (fun i T' H' => H' 0 = b5 ∧ H' 5 = ⟨1, false, .row 3 ((iosW (ios.take i)).map IoV.av)⟩ ∧ Has T' [(5, .ptr 0 1 1 7 0 0), (13, v13), (15, .slc 5 1 i 3 0 i none), (45, .islc t f s' (ios.map IoV.av)), (46, .int .i64 ios.length), (47, .int .i64 (i : Nat))]) ⟨h0, h5, hT⟩ (by omega) ?_
 rintro i T H hi ⟨g0, g5, hT⟩
 rw [hT.eq]
 simp only [over]
 unfold Zt
 by_cases hil : i < ios.length
 ·obtain rfl : s' = 3 := hs.resolve_right (fun h => by rw [h] at hil; simp at hil)
  obtain ⟨⟨kd, a, d, t1, f1, s1⟩, hx⟩ : ∃ x, x = ios[i] := ⟨_, rfl⟩
  obtain ⟨hs1, hdl⟩ := ho ios[i] (Bx hil)
  rw [← hx] at hs1 hdl
  simp only at hs1 hdl
  subst hs1
  have he2 : (ios.map IoV.av)[(i : Int).toNat]? = some (.agg [.int .i64 kd, .int .i64 a, .islc t1 f1 1 (BL d)]) := by
   rw [Ax, Az, Aa hil, ← hx]; rfl
  have hcl := Adv k (by omega) t1 f1 (BL d) (Lh d) (fun n H => Akf _ _ _ d) (by simp; omega)
  have hn1 : ((iosW (ios.take i)).map IoV.av).length = i := by simp [iosW]; omega
  have e1 : (iosW (ios.take (i + 1))).map IoV.av = (iosW (ios.take i)).map IoV.av ++ [.agg [.int .i64 1, .int .i64 a, .islc false false 1 (BL d)]] := by
   rw [Au hil, ← hx]
   simp [iosW]; rfl
  repeat' (first
   | refine qS ?_ | refine Cz rfl rfl (by omega) he2 rfl rfl ?_ | refine Ab hcl ?_ | refine Tq rfl rfl rfl (by exact g5) hn1 rfl (by omega) rfl rfl (fun _ => ?_) | refine qQb ?_
   | refine Af (fun _ => ?_) (fun _ => ?_) | refine Bu fun _ => ?_)
  exact ⟨hil, g0, by rw [e1]; rfl, rfl, rfl, rfl, rfl, rfl, by show AV.int _ _ = AV.int _ _; congr 1, trivial⟩
 ·have hin : i = ios.length := by omega
  repeat' (first | refine qQb ?_ | refine Af (fun _ => ?_) (fun _ => ?_) | refine Bu fun _ => ?_)
  subst hin
  rw [Ch] at g5
  exact ⟨rfl, g0, g5, rfl, rfl, rfl, trivial⟩
theorem Axr (out : Bool) (n : Nat) (H : Heap) (l : List IoV) (h : ∀ x ∈ l, x.t = false) : (l.map IoV.av).map (fz out (n + 2) H) = l.map IoV.av := by
 rw [Fh]
 refine Av fun x hx => ?_
 obtain ⟨kd, a, d, t, f, s⟩ := x
 have ht := h _ hx
 simp only at ht
 subst ht
 cases out <;> rfl
theorem Abd {out : Bool} {H : Heap} {j gn v : Nat} {ro : Bool} {cap : Option Nat} {l : List IoV} (hr : H j = ⟨gn, ro, .row 3 (l.map IoV.av)⟩) (hv : l.length = v) (ht : ∀ x ∈ l, x.t = false) (n : Nat) : fz out (n + 3) H (.slc j gn v 3 0 v cap) = .islc (!out) false 3 (l.map IoV.av) := by
 rw [Oi (Ev hr (by simpa using hv)) (by omega), Cd, Aj (by simp; omega), Axr out n H l ht]
theorem Apv (s : Sup) (slot : Nat) (ios : List IoV) (root size first : Nat) : ∀ x ∈ Eu s slot ios root size first, x.t = false := by
 intro x hx
 unfold Eu iosW at hx
 rcases Bq.1 hx with hx | hx
 ·obtain ⟨y, _, rfl⟩ := Bt.1 hx; rfl
 ·simp only [Ar, Nq, pJ] at hx
  rcases hx with rfl | rfl | rfl <;> rfl
theorem sX (k : Nat) (hk : 1000050 ≤ k) (s : Sup) (slot : Nat) (f1 : Bool) (s1 : Nat) (es : List AV) (ios : List IoV) (t f : Bool) (s' root size first : Nat) (hs : s.ok) (hi : slot ≤ 1) (hs' : s' = 3 ∨ ios = []) (hl : ios.length < 1000) (hio : ∀ x ∈ ios, okIo s.blocks x ∧ x.s = 1)
  (hno : s.gen < 1099511627776 → (Vp s root size first).ok) :
  FnV (CF k) aX [.agg [.int .i64 s.gen, .int .i64 s.blocks, .int .i64 s.root, .int .i64 s.size, .int .i64 s.first, .int .i64 slot, .islc false f1 s1 es], .islc t f s' (ios.map IoV.av), .int .i64 root, .int .i64 size, .int .i64 first]
   (if s.gen < 1099511627776 then .tup [.islc false false 3 ((Eu s slot ios root size first).map IoV.av), .int .i64 0] else .tup [.islc false false 3 [], .int .i64 8]) := by
 have hr := rL (k - 1) (by omega) s slot f1 s1 es hs hi
 have hlm : (ios.map IoV.av).length = ios.length := Ah _
 by_cases hg : s.gen < 1099511627776
 ·rw [An hg] at hr
  rw [if_pos hg]
  have hok := hno hg
  have hb := eU (k - 1) (by omega) (Vp s root size first) (Sup.ok_lt hok)
  rw [if_pos hok] at hb
  have hcf : FnV (CF (k - 1)) Dk [.islc t f s' (ios.map IoV.av), .fn Na [.iptr true [.int .i64 ((s.gen : Int) + 1), .int .i64 s.blocks, .int .i64 root, .int .i64 size, .int .i64 first]]] (.bool false) := by
   by_cases hn : ios = []
   ·subst hn
    exact Xm (k - 1) (by omega) t f s' _ _ (fun _ => rfl)
   ·obtain rfl : s' = 3 := hs'.resolve_right hn
    have := Zo (k - 1) (by omega) t f ios Na [.iptr true [.int .i64 ((s.gen : Int) + 1), .int .i64 s.blocks, .int .i64 root, .int .i64 size, .int .i64 first]] (fun _ => false) (by omega) (fun _ => rfl) (fun _ _ => rfl)
     (fun i hi => Aoa (k - 3) (by omega) _ s.blocks _ _ _ _ (hio _ (by rw [Ae, Aa hi]; exact Bx hi)).1)
    rwa [show (ios.any fun _ => false) = false by simp] at this
  obtain ⟨bs, hbs⟩ : ∃ b, b = supB (Vp s root size first) := ⟨_, rfl⟩
  have hsl : Eu s slot ios root size first = iosW ios ++ [flushIo, wIo (1 - slot) bs, flushIo] := by rw [hbs]; rfl
  have htt := Apv s slot ios root size first
  rw [hsl] at htt ⊢
  rw [← hbs] at hb
  obtain ⟨g, b, r, z, fi⟩ := s
  have hb' : FnV (CF (k - 1)) Wn [.agg [.int .i64 ((g : Int) + 1), .int .i64 b, .int .i64 root, .int .i64 size, .int .i64 first]] (.tup [.islc false false 1 (BL bs), .int .i64 0]) := hb
  simp only at hr hcf hg ⊢
  refine fnk (by omega) aH rfl ?_
  unfold commit_Steps
  have h01 : slot = 0 ∨ slot = 1 := by omega
  repeat' (first
   | refine qS ?_ | refine qN ?_ | refine Ab hr ?_ | refine Ab hcf ?_ | refine Bi (n := ios.length) rfl hlm rfl rfl ?_ | refine Bf (hb') (fun _ => ?_) (fun _ => ?_)
   | refine Ab (hb') ?_ | refine qQb ?_ | refine Af (fun _ => ?_) (fun _ => ?_) | refine Bu fun _ => ?_)
  refine W.mono (Ajo (k := k - 1) (ios := ios) (t := t) (f := f) (s' := s') (v13 := .islc false false 1 (BL bs)) (b5 := ⟨1, false, .row 7 [.agg [.int .i64 g, .int .i64 b, .int .i64 r, .int .i64 z, .int .i64 fi, .int .i64 slot, .islc false f1 s1 es]]⟩) (by omega) hs' hl (fun x hx => ⟨(hio x hx).2, (hio x hx).1.2.2⟩) ?_ ?_ ?_) ?_
  ·rfl
  ·rfl
  ·exact ⟨rfl, rfl, rfl, rfl, rfl, rfl, trivial⟩
  rintro ex T2 H2 ⟨rfl, g0, g5, hT2⟩
  rw [hT2.eq]
  simp only [over]
  show W _ _
  have hll : ((iosW ios).map IoV.av).length = ios.length := by simp [iosW]
  have hfin : ∀ q : Nat, q = 1 - slot → ∀ H' : Heap, H' 5 = ⟨1, false, .row 3 ((iosW ios).map IoV.av ++ [flushIo.av, (wIo q bs).av, flushIo.av])⟩ → fz true (2 + 3) H' (.slc 5 1 (ios.length + 3) 3 0 (ios.length + 3) none) = .islc false false 3 ((iosW ios ++ [flushIo, wIo (1 - slot) bs, flushIo]).map IoV.av) := by
   intro q hq H' h
   subst hq
   exact Abd (out := true) (l := iosW ios ++ [flushIo, wIo (1 - slot) bs, flushIo]) (by rw [h, Br]; rfl) (by simp [iosW]) htt 2
  rcases h01 with rfl | rfl
  ·skip
   repeat' (first
    | refine qS ?_ | refine qN ?_ | refine Aw ?_ (hr := by exact g0) | refine gW (n := 3) rfl rfl rfl (by exact g5) rfl rfl hll rfl (by omega) rfl rfl (fun _ => ?_)
    | refine qQb ?_ | refine Af (fun _ => ?_) (fun _ => ?_) | refine Bu fun _ => ?_)
   exact ⟨Or.inr rfl, .tup [.slc 5 1 (ios.length + 3) 3 0 (ios.length + 3) none, .int .i64 0], rfl, Bk (fun z => AV.tup [z, .int .i64 0]) (hfin 1 rfl _ rfl)⟩
  ·skip
   repeat' (first
    | refine qS ?_ | refine qN ?_ | refine Aw ?_ (hr := by exact g0) | refine gW (n := 3) rfl rfl rfl (by exact g5) rfl rfl hll rfl (by omega) rfl rfl (fun _ => ?_)
    | refine qQb ?_ | refine Af (fun _ => ?_) (fun _ => ?_) | refine Bu fun _ => ?_)
   exact ⟨Or.inr rfl, .tup [.slc 5 1 (ios.length + 3) 3 0 (ios.length + 3) none, .int .i64 0], rfl, Bk (fun z => AV.tup [z, .int .i64 0]) (hfin 0 rfl _ rfl)⟩
 ·rw [Ba hg] at hr
  rw [if_neg hg]
  obtain ⟨g, b, r, z, fi⟩ := s
  simp only at hr ⊢
  refine fnk (by omega) aH rfl ?_
  unfold commit_Steps
  repeat' (first | refine qS ?_ | refine qN ?_ | refine Ab hr ?_ | refine qQb ?_ | refine Af (fun _ => ?_) (fun _ => ?_) | refine Bu fun _ => ?_)
  exact ⟨Or.inr rfl, .tup [.slc 2 1 0 3 0 0 none, .int .i64 8], rfl, rfl⟩
end Go.Proofs.YtkpndfkpdnknkaaGreat

