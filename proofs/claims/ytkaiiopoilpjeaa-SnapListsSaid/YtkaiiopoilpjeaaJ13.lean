import Derived.Test.YtkaiiopoilpjeaaJ12
import Derived.Test.YtkaiiopoilpjeaaG4
set_option linter.unusedSimpArgs false
set_option linter.unusedVariables false
set_option maxRecDepth 10000
set_option maxHeartbeats 16000000
namespace Go.AI
section
variable {cf : Cx} {xf : ExtF} {base : Nat} {T : Tmps} {H : Heap} {QO : Tmps → Heap → Prop} {log : List FP} {g : Option (Nat × Bool)} {un : List Nat} {r : List SOper} {d : Nat} {t f : Bool}
theorem wY {site gn j v j2 g2 s n : Nat} {ro : Bool} {x y : SArg} {es m : List AV} {cap2 : Option Nat} (hx : x.ev T = .slc j gn v s 0 v .none) (hy : y.ev T = .slc j2 g2 n s 0 n cap2) (h2 : H j2 = ⟨g2, ro, .row s m⟩) (hr : H j = ⟨gn, false, .row s es⟩) (hn : m.length = n) (hm0 : Fz m = false) (hv : es.length = v) (he : Bq m = true) (hm : v + n ≤ 68719476736)
  (hw : Af T g = some true) (hl : un = [])
  (h : ∀ fp, WO (aops cf xf base r (log ++ [fp]) (T.upd d (.slc j gn (v + n) s 0 (v + n) .none)) (H.upd j ⟨gn, false, .row s (es ++ m)⟩)) QO) :
  WO (aops cf xf base (⟨some d, .app site s x y, g, un⟩ :: r) log T H) QO := by
 subst hl
 subst hn
 refine Aq (v := .slc j gn (v + m.length) s 0 (v + m.length) .none) (H' := H.upd j ⟨gn, false, .row s (es ++ m)⟩) (fp := ⟨[j2] ++ [] ++ [j], [] ++ [j], false⟩) hw ?_ rfl (h _)
 have e1 : Ch H s (.slc j2 g2 m.length s 0 m.length cap2) = some (m, [j2]) := by
  simp [Ch, Ek (ver := m.length) h2 rfl]
 have e2 : Du H m = some (m, H, []) := by
  cases m with
  | nil => cases hm0
  | cons a m => simp [Du, he]
 simp only [aop, hx, hy, Gv, e1, e2, Ac, Aa]
 simp only [Dc, hm0, Ap, Bx, Ip hr hv]
 rw [if_pos ⟨trivial, by omega, by simpa [Gz] using hm⟩]
 rw [if_neg (by cases m with | nil => cases hm0 | cons a m => simp)]
 rw [if_pos ⟨trivial, trivial⟩, Gn hr]
 rfl
end
end Go.AI
namespace Go.Proofs.Ytkaiiopoilpjeaa
open Go.AI
attribute [local irreducible] aops Bb Cj Dm aop W WO
theorem gZ (k : Nat) (hk : 1 ≤ k) (a : Nat) : FnV (CF k) Ug [.int .i64 a] (.bool (decide (2 ≤ a ∧ a < 4096))) := by
  refine fnk (by omega) fZ rfl ?_
  unfold Rl
  repeat' (first | refine qS ?_ | refine qN ?_ | refine qQb ?_ | refine Ab (fun _ => ?_) (fun _ => ?_))
  all_goals first
    | (refine ⟨Or.inr rfl, _, rfl, ?_⟩
       simp only [cmpP] at *
       show AV.bool _ = AV.bool _
       congr 1
       first
         | exact (Az (by omega)).symm
         | exact (Bo (by omega)).symm)
    | (exfalso; simp only [cmpP] at *; omega)
theorem gH (k : Nat) (hk : 10 ≤ k) (s : Sup) (slot : Nat) (f : Bool) (s' : Nat) (es : List AV) (hs : s.ok) (hi : slot ≤ 1) : FnV (CF k) Uo [.agg [.int .i64 s.gen, .int .i64 s.blocks, .int .i64 s.root, .int .i64 s.size, .int .i64 s.first, .int .i64 slot, .islc false f s' es]] (.bool (decide (s.gen < 1099511627776))) := by
 have hc := Qb (k - 1) (by omega) s (Sup.ok_lt hs)
 rw [if_pos hs] at hc
 have hg := hs.1
 obtain ⟨g, b, r, z, fi⟩ := s
 unfold Sup.av at hc
 simp only at hc hg ⊢
 refine fnk (by omega) eL rfl ?_
 unfold Rj
 by_cases h : g < 1099511627776
 ·rw [Az h]
  by_cases h0 : slot = 0
  ·subst h0
   repeat' (first | refine qS ?_ | refine qN ?_ | refine Ag (hc) (fun _ => ?_) (fun _ => ?_) | refine Ad (hc) ?_ | refine qQb ?_ | refine Ab (fun _ => ?_) (fun _ => ?_))
   exact ⟨Or.inr rfl, _, rfl, rfl⟩
  ·obtain rfl : slot = 1 := by omega
   repeat' (first | refine qS ?_ | refine qN ?_ | refine Ag (hc) (fun _ => ?_) (fun _ => ?_) | refine Ad (hc) ?_ | refine qQb ?_ | refine Ab (fun _ => ?_) (fun _ => ?_))
   exact ⟨Or.inr rfl, _, rfl, rfl⟩
 ·rw [Bo h]
  repeat' (first | refine qS ?_ | refine qN ?_ | refine Ag (hc) (fun _ => ?_) (fun _ => ?_) | refine Ad (hc) ?_ | refine qQb ?_ | refine Ab (fun _ => ?_) (fun _ => ?_))
  exact ⟨Or.inr rfl, _, rfl, rfl⟩
def okIo (n : Nat) (x : IoV) : Prop := x.kind = 1 ∧ (2 ≤ x.at0 ∧ x.at0 < n) ∧ x.data.length = 64
theorem fX (k : Nat) (hk : 1 ≤ k) (x : IoV) (n : Nat) (h : okIo n x) : FnV (CF k) Tf [x.av, .int .i64 n] (.bool true) := by
 obtain ⟨kd, a, d, t, f, s⟩ := x
 obtain ⟨h1, h2, h3⟩ := h
 simp only at h1 h2 h3
 refine fnk (by omega) eF rfl ?_
 unfold Rp IoV.av
 simp only
 repeat' (first | refine qS ?_ | refine qN ?_ | refine Ba (n := d.length) rfl (by simp) rfl rfl ?_ | refine qQb ?_ | refine Ab (fun _ => ?_) (fun _ => ?_))
 exact ⟨Or.inr rfl, _, rfl, rfl⟩
theorem zL (k : Nat) (hk : 2 ≤ k) (x : IoV) (n : Nat) (a0 a2 a3 a4 : AV) (h : okIo n x) : FnV (CF k) Jw [x.av, .iptr true [a0, .int .i64 n, a2, a3, a4]] (.bool false) := by
 have hw := fX (k - 1) (by omega) x n h
 obtain ⟨kd, a, d, t, f, s⟩ := x
 unfold IoV.av at hw ⊢
 simp only at hw ⊢
 refine fnk (by omega) aH rfl ?_
 unfold Pe
 repeat' (first | refine qS ?_ | refine Ad hw ?_ | refine qQb ?_ | fail)
 exact ⟨Or.inr rfl, _, rfl, rfl⟩
theorem jJ (k : Nat) (hk : 10 ≤ k) (t f : Bool) (s : Nat) (v : AV) : FnV (CF k) Fa [.islc t f s [], v] (.int .i64 (-1)) := by
 refine fnk (by omega) Ha rfl ?_
 unfold Dw
 repeat' (first | refine qQb ?_ | refine Ab (fun _ => ?_) (fun _ => ?_))
 refine Ib (w_it (by omega) ?_)
 repeat' (first | refine qQb ?_ | refine Ab (fun _ => ?_) (fun _ => ?_))
 exact ⟨Or.inr rfl, _, rfl, rfl⟩
theorem Qq (k : Nat) (hk : 11 ≤ k) (t f : Bool) (s : Nat) (fn : Nat) (caps : List AV) (hz : ∀ H, caps.map (fz false 5 H) = caps) : FnV (CF k) Cs [.islc t f s [], .fn fn caps] (.bool false) := by
 have hi := jJ (k - 1) (by omega) t f s (.fn fn caps)
 refine fnk (by omega) Gk rfl ?_
 unfold Dp
 repeat' (first | refine qS ?_ | refine Ad hi ?_ rfl (by show [_, AV.fn fn (caps.map (fz false 5 _))] = _; rw [hz]; rfl) | refine qQb ?_ | refine Ab (fun _ => ?_) (fun _ => ?_))
 exact ⟨Or.inr rfl, _, rfl, rfl⟩
def wIo (a : Nat) (d : List UInt8) : IoV := ⟨1, a, d, false, false, 1⟩
def flushIo : IoV := ⟨2, 0, [], false, true, 0⟩
def Vq (s : Sup) (root size first : Nat) : Sup := ⟨s.gen + 1, s.blocks, root, size, first⟩
def iosW (l : List IoV) : List IoV := l.map fun x => wIo x.at0 x.data
def Ez (s : Sup) (slot : Nat) (ios : List IoV) (root size first : Nat) : List IoV := iosW ios ++ [flushIo, wIo (1 - slot) (supB (Vq s root size first)), flushIo]
theorem tK {k : Nat} {ios : List IoV} {t f : Bool} {s' : Nat} {v13 : AV} {b5 : Blk} {T : Tmps} {H : Heap} (hk : 1000000 ≤ k) (hs : s' = 3 ∨ ios = []) (hl : ios.length < 1000) (ho : ∀ x ∈ ios, x.s = 1 ∧ x.data.length = 64) (h5 : H 5 = ⟨1, false, .row 3 []⟩) (h0 : H 0 = b5)
  (hT : Has T [(5, .ptr 0 1 1 7 0 0), (13, v13), (15, .slc 5 1 0 3 0 0 none), (45, .islc t f s' (ios.map IoV.av)), (46, .int .i64 ios.length), (47, .int .i64 0)]) :
  W (Bb (CF k) noX 0 k (.loop Si) T H) (fun ex T' H' => ex = .exit 0 ∧ H' 0 = b5 ∧ H' 5 = ⟨1, false, .row 3 ((iosW ios).map IoV.av)⟩ ∧ Has T' [(5, .ptr 0 1 1 7 0 0), (13, v13), (15, .slc 5 1 ios.length 3 0 ios.length none)]) := by
 refine Fx ios.length (fun i T' H' => H' 0 = b5 ∧ H' 5 = ⟨1, false, .row 3 ((iosW (ios.take i)).map IoV.av)⟩ ∧ Has T' [(5, .ptr 0 1 1 7 0 0), (13, v13), (15, .slc 5 1 i 3 0 i none), (45, .islc t f s' (ios.map IoV.av)), (46, .int .i64 ios.length), (47, .int .i64 (i : Nat))]) ⟨h0, h5, hT⟩ (by omega) ?_
 rintro i T H hi ⟨g0, g5, hT⟩
 rw [hT.eq]
 simp only [over]
 unfold Si
 by_cases hil : i < ios.length
 ·obtain rfl : s' = 3 := hs.resolve_right (fun h => by rw [h] at hil; simp at hil)
  obtain ⟨⟨kd, a, d, t1, f1, s1⟩, hx⟩ : ∃ x, x = ios[i] := ⟨_, rfl⟩
  obtain ⟨hs1, hdl⟩ := ho ios[i] (Bz hil)
  rw [← hx] at hs1 hdl
  simp only at hs1 hdl
  subst hs1
  have he2 : (ios.map IoV.av)[(i : Int).toNat]? = some (.agg [.int .i64 kd, .int .i64 a, .islc t1 f1 1 (BL d)]) := by
   rw [Bd, Cd, Ai hil, ← hx]; rfl
  have hcl := Acf k (by omega) t1 f1 (BL d) (Js d) (fun n H => Adl _ _ _ d) (by simp; omega)
  have hn1 : ((iosW (ios.take i)).map IoV.av).length = i := by simp [iosW]; omega
  have e1 : (iosW (ios.take (i + 1))).map IoV.av = (iosW (ios.take i)).map IoV.av ++ [.agg [.int .i64 1, .int .i64 a, .islc false false 1 (BL d)]] := by
   rw [Bh hil, ← hx]
   simp [iosW]; rfl
  repeat' (first
   | refine qS ?_ | refine Dv rfl rfl (by omega) he2 rfl rfl ?_ | refine Ad hcl ?_ | refine It rfl rfl rfl (by exact g5) hn1 rfl (by omega) rfl rfl (fun _ => ?_) | refine qQb ?_
   | refine Ab (fun _ => ?_) (fun _ => ?_) | refine Ax fun _ => ?_)
  exact ⟨hil, g0, by rw [e1]; rfl, rfl, rfl, rfl, rfl, rfl, by show AV.int _ _ = AV.int _ _; congr 1, trivial⟩
 ·have hin : i = ios.length := by omega
  repeat' (first | refine qQb ?_ | refine Ab (fun _ => ?_) (fun _ => ?_) | refine Ax fun _ => ?_)
  subst hin
  rw [Bp] at g5
  exact ⟨rfl, g0, g5, rfl, rfl, rfl, trivial⟩
theorem Aha (out : Bool) (n : Nat) (H : Heap) (l : List IoV) (h : ∀ x ∈ l, x.t = false) : (l.map IoV.av).map (fz out (n + 2) H) = l.map IoV.av := by
 rw [Fh]
 refine Bn fun x hx => ?_
 obtain ⟨kd, a, d, t, f, s⟩ := x
 have ht := h _ hx
 simp only at ht
 subst ht
 cases out <;> rfl
theorem Sc {out : Bool} {H : Heap} {j gn v : Nat} {ro : Bool} {cap : Option Nat} {l : List IoV} (hr : H j = ⟨gn, ro, .row 3 (l.map IoV.av)⟩) (hv : l.length = v) (ht : ∀ x ∈ l, x.t = false) (n : Nat) : fz out (n + 3) H (.slc j gn v 3 0 v cap) = .islc (!out) false 3 (l.map IoV.av) := by
 rw [Ph (Ek hr (by simpa using hv)) (by omega), Cc, Aj (by simp; omega), Aha out n H l ht]
theorem Ada (s : Sup) (slot : Nat) (ios : List IoV) (root size first : Nat) : ∀ x ∈ Ez s slot ios root size first, x.t = false := by
 intro x hx
 unfold Ez iosW at hx
 rcases Bg.1 hx with hx | hx
 ·obtain ⟨y, _, rfl⟩ := Ca.1 hx; rfl
 ·simp only [Au, Kf, dO] at hx
  rcases hx with rfl | rfl | rfl <;> rfl
theorem Th (k : Nat) (hk : 1000050 ≤ k) (s : Sup) (slot : Nat) (f1 : Bool) (s1 : Nat) (es : List AV) (ios : List IoV) (t f : Bool) (s' root size first : Nat) (hs : s.ok) (hi : slot ≤ 1) (hs' : s' = 3 ∨ ios = []) (hl : ios.length < 1000) (hio : ∀ x ∈ ios, okIo s.blocks x ∧ x.s = 1)
  (hno : s.gen < 1099511627776 → (Vq s root size first).ok) :
  FnV (CF k) Tu [.agg [.int .i64 s.gen, .int .i64 s.blocks, .int .i64 s.root, .int .i64 s.size, .int .i64 s.first, .int .i64 slot, .islc false f1 s1 es], .islc t f s' (ios.map IoV.av), .int .i64 root, .int .i64 size, .int .i64 first]
   (if s.gen < 1099511627776 then .tup [.islc false false 3 ((Ez s slot ios root size first).map IoV.av), .int .i64 0] else .tup [.islc false false 3 [], .int .i64 8]) := by
 have hr := gH (k - 1) (by omega) s slot f1 s1 es hs hi
 have hlm : (ios.map IoV.av).length = ios.length := Ak _
 by_cases hg : s.gen < 1099511627776
 ·rw [Az hg] at hr
  rw [if_pos hg]
  have hok := hno hg
  have hb := Wn (k - 1) (by omega) (Vq s root size first) (Sup.ok_lt hok)
  rw [if_pos hok] at hb
  have hcf : FnV (CF (k - 1)) Cs [.islc t f s' (ios.map IoV.av), .fn Jw [.iptr true [.int .i64 ((s.gen : Int) + 1), .int .i64 s.blocks, .int .i64 root, .int .i64 size, .int .i64 first]]] (.bool false) := by
   by_cases hn : ios = []
   ·subst hn
    exact Qq (k - 1) (by omega) t f s' _ _ (fun _ => rfl)
   ·obtain rfl : s' = 3 := hs'.resolve_right hn
    have := Sh (k - 1) (by omega) t f ios Jw [.iptr true [.int .i64 ((s.gen : Int) + 1), .int .i64 s.blocks, .int .i64 root, .int .i64 size, .int .i64 first]] (fun _ => false) (by omega) (fun _ => rfl) (fun _ _ => rfl)
     (fun i hi => zL (k - 3) (by omega) _ s.blocks _ _ _ _ (hio _ (by rw [Aw, Ai hi]; exact Bz hi)).1)
    rwa [show (ios.any fun _ => false) = false by simp] at this
  obtain ⟨bs, hbs⟩ : ∃ b, b = supB (Vq s root size first) := ⟨_, rfl⟩
  have hsl : Ez s slot ios root size first = iosW ios ++ [flushIo, wIo (1 - slot) bs, flushIo] := by rw [hbs]; rfl
  have htt := Ada s slot ios root size first
  rw [hsl] at htt ⊢
  rw [← hbs] at hb
  obtain ⟨g, b, r, z, fi⟩ := s
  have hb' : FnV (CF (k - 1)) Qa [.agg [.int .i64 ((g : Int) + 1), .int .i64 b, .int .i64 root, .int .i64 size, .int .i64 first]] (.tup [.islc false false 1 (BL bs), .int .i64 0]) := hb
  simp only at hr hcf hg ⊢
  refine fnk (by omega) Sw rfl ?_
  unfold commit_Steps
  have h01 : slot = 0 ∨ slot = 1 := by omega
  repeat' (first
   | refine qS ?_ | refine qN ?_ | refine Ad hr ?_ | refine Ad hcf ?_ | refine Ba (n := ios.length) rfl hlm rfl rfl ?_ | refine Ag (hb') (fun _ => ?_) (fun _ => ?_)
   | refine Ad (hb') ?_ | refine qQb ?_ | refine Ab (fun _ => ?_) (fun _ => ?_) | refine Ax fun _ => ?_)
  refine W.mono (tK (k := k - 1) (ios := ios) (t := t) (f := f) (s' := s') (v13 := .islc false false 1 (BL bs)) (b5 := ⟨1, false, .row 7 [.agg [.int .i64 g, .int .i64 b, .int .i64 r, .int .i64 z, .int .i64 fi, .int .i64 slot, .islc false f1 s1 es]]⟩) (by omega) hs' hl (fun x hx => ⟨(hio x hx).2, (hio x hx).1.2.2⟩) ?_ ?_ ?_) ?_
  ·rfl
  ·rfl
  ·exact ⟨rfl, rfl, rfl, rfl, rfl, rfl, trivial⟩
  rintro ex T2 H2 ⟨rfl, g0, g5, hT2⟩
  rw [hT2.eq]
  simp only [over]
  show W _ _
  have hll : ((iosW ios).map IoV.av).length = ios.length := by simp [iosW]
  have hfin : ∀ q : Nat, q = 1 - slot → ∀ H' : Heap, H' 5 = ⟨1, false, .row 3 ((iosW ios).map IoV.av ++ [flushIo.av, (wIo q bs).av, flushIo.av])⟩ → fz true (2 + 3) H' (.slc 5 1 (ios.length + 3) 3 0 (ios.length + 3) none) = .islc false false 3 ((iosW ios ++ [flushIo, wIo (1 - slot) bs, flushIo]).map IoV.av) := by
   intro q hq H' h
   subst hq
   exact Sc (out := true) (l := iosW ios ++ [flushIo, wIo (1 - slot) bs, flushIo]) (by rw [h, Br]; rfl) (by simp [iosW]) htt 2
  rcases h01 with rfl | rfl
  ·skip
   repeat' (first
    | refine qS ?_ | refine qN ?_ | refine Bj ?_ (hr := by exact g0) | refine wY (n := 3) rfl rfl rfl (by exact g5) rfl rfl hll rfl (by omega) rfl rfl (fun _ => ?_)
    | refine qQb ?_ | refine Ab (fun _ => ?_) (fun _ => ?_) | refine Ax fun _ => ?_)
   exact ⟨Or.inr rfl, .tup [.slc 5 1 (ios.length + 3) 3 0 (ios.length + 3) none, .int .i64 0], rfl, Ay (fun z => AV.tup [z, .int .i64 0]) (hfin 1 rfl _ rfl)⟩
  ·skip
   repeat' (first
    | refine qS ?_ | refine qN ?_ | refine Bj ?_ (hr := by exact g0) | refine wY (n := 3) rfl rfl rfl (by exact g5) rfl rfl hll rfl (by omega) rfl rfl (fun _ => ?_)
    | refine qQb ?_ | refine Ab (fun _ => ?_) (fun _ => ?_) | refine Ax fun _ => ?_)
   exact ⟨Or.inr rfl, .tup [.slc 5 1 (ios.length + 3) 3 0 (ios.length + 3) none, .int .i64 0], rfl, Ay (fun z => AV.tup [z, .int .i64 0]) (hfin 0 rfl _ rfl)⟩
 ·rw [Bo hg] at hr
  rw [if_neg hg]
  obtain ⟨g, b, r, z, fi⟩ := s
  simp only at hr ⊢
  refine fnk (by omega) Sw rfl ?_
  unfold commit_Steps
  repeat' (first | refine qS ?_ | refine qN ?_ | refine Ad hr ?_ | refine qQb ?_ | refine Ab (fun _ => ?_) (fun _ => ?_) | refine Ax fun _ => ?_)
  exact ⟨Or.inr rfl, .tup [.slc 2 1 0 3 0 0 none, .int .i64 8], rfl, rfl⟩
end Go.Proofs.Ytkaiiopoilpjeaa

