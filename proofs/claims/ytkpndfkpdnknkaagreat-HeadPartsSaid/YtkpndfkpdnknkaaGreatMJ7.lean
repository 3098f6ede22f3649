/- Lemmas. -/
import Derived.Test.YtkpndfkpdnknkaaGreatMJ6
set_option linter.unusedSimpArgs false
set_option linter.unusedVariables false
set_option maxRecDepth 10000
set_option maxHeartbeats 16000000
namespace Go.AI
section
variable {cf : Dh} {xf : ExtF} {base : Nat} {T : Tmps} {H : Heap} {QO : Tmps → Heap → Prop} {log : List FP} {g : Option (Nat × Bool)} {un : List Nat} {r : List SOper} {d : Nat} {t f : Bool}
theorem Agp {j gn v off len s j2 g2 v2 off2 : Nat} {ro : Bool} {cap cap2 : Option Nat} {x y : SArg} {m es es2 : List AV} (hx : x.ev T = .slc j gn v s off len cap) (hy : y.ev T = .slc j2 g2 v2 s off2 len cap2) (h2 : H j2 = ⟨g2, ro, .row s es2⟩) (hv2 : es2.length = v2) (ho2 : off2 + len ≤ v2) (hm : (es2.drop off2).take len = m) (hn : Cf m = true) (hr : H j = ⟨gn, false, .row s es⟩) (hv : es.length = v) (ho : off + len ≤ v)
  (hw : Ai T g = some true) (hl : Bm log ⟨[j, j2], [j], false⟩ un = true)
  (h : WO (aops cf xf base r (log ++ [⟨[j, j2], [j], false⟩]) (T.upd d (.int .i64 len)) (H.upd j ⟨gn, false, .row s (es.take off ++ m ++ es.drop (off + len))⟩)) QO) : WO (aops cf xf base (⟨some d, .copy s x y, g, un⟩ :: r) log T H) QO := by
 have hml : m.length = len := by rw [← hm, Ay, Bl]; omega
 refine Bg (v := .int .i64 len) (H' := H.upd j ⟨gn, false, .row s (es.take off ++ m ++ es.drop (off + len))⟩) (fp := ⟨[j, j2], [j], false⟩) hw ?_ hl h
 have e1 : Cy H s (.slc j2 g2 v2 s off2 len cap2) = some (m, [j2]) := by
  simp only [Cy, Ev h2 hv2]
  rw [if_pos ⟨trivial, ho2⟩, hm]
 simp only [aop, rK, hx, hy, e1, hn, Kf, Bd, Cp, Ad, Ac, Kp hr hv, true_and]
 rw [if_pos ho, hml, Nat.min_self, Aj (l := m) (i := len) (by omega), Hl hr]
end
end Go.AI
namespace Go.Proofs.YtkpndfkpdnknkaaGreat
open Go.AI
attribute [local irreducible] aops Bp Cs Df aop W WO
theorem Ano {k : Nat} {H : Heap} {T : Tmps} {it imf mt mf t f : Bool} {l : List UInt8} {w : WS} {wf : Bool} {m fs w0 w1 w2 i0 i1 i2 fl : List Nat} (hk : 1000100 ≤ k) (hl : fs.length < 1000000) (hml : m.length < 1000000) (hwl : w.m.length < 1000000) (hnl : w.nodes.length < 1000000) (hM : MayP l w m fs)
  (hT : Has T [(0, .iptr true (mkVs it imf l (nb l) false (Gr false wf l w) mt mf m w0 w1 w2 i0 i1 i2 fl)), (1, .islc t f 1 (NL fs)), (7, .islc t f 1 (NL fs)), (8, .int .i64 fs.length), (9, .int .i64 0)]) :
  W (Bp (CF k) noX 0 k (.loop Qr) T H) (fun ex T' H' => ex = .exit 0) := by
 have ⟨hM1, hM2⟩ := hM
 obtain ⟨nf, ns, hb, hns⟩ := Kr w.nodes
 unfold mkVs Gr at hT
 rw [hb] at hT
 refine Fa fs.length (fun i T' H' => Has T' [(0, .iptr true (mkVs it imf l (nb l) false (Gr false wf l w) mt mf m w0 w1 w2 i0 i1 i2 fl)), (1, .islc t f 1 (NL fs)), (7, .islc t f 1 (NL fs)), (8, .int .i64 fs.length), (9, .int .i64 (i : Nat))]) (by unfold mkVs Gr; rw [hb]; exact hT) (by omega) ?_
 clear hT
 rintro i T H2 hi hT
 rw [hT.eq]
 unfold mkVs Gr
 rw [hb]
 simp only [over]
 unfold Qr
 by_cases hlt : i < fs.length
 ·obtain ⟨b, hbb⟩ : ∃ b, b = fs[i] := ⟨_, rfl⟩
  have hM3 := hM1 i hlt
  rw [← hbb] at hM3
  obtain ⟨p1, p2, p3, p4, p5⟩ := hM3
  have hex : (NL fs)[(i : Int).toNat]? = some (.int .i64 (b : Nat)) := by
   rw [Ax]; unfold NL; rw [Az, Aa hlt, ← hbb]; rfl
  have hany : ∀ q : List Nat, b ∉ q → (q.any (b == ·)) = false := by
   intro q hq
   rw [Wx]
   intro x hx hc
   exact hq (by rw [eq_of_beq hc]; exact hx)
  have k1 := Od k (by omega) mt mf m b hml
  rw [hany m p3] at k1
  have k2 := Od k (by omega) false false w.m b hwl
  rw [hany w.m p4] at k2
  have k3 : FnV (CF k) Cv [.islc false nf ns (NL w.nodes), .int .i64 b] (.bool false) := by
   rcases hns with rfl | he
   ·have := Od k (by omega) false nf w.nodes b hnl
    rw [hany w.nodes p5] at this
    exact this
   ·rw [he]
    exact aI k (by omega) false nf ns b
  have p1' : ¬ (b : Int) < 2 := by omega
  have p2' : ¬ (b : Int) ≥ (nb l : Int) := by omega
  by_cases hi0 : i = 0
  ·have h0' : ¬ (i : Int) > 0 := by omega
   repeat' (first | refine qS ?_ | refine qN ?_ | refine Cz rfl rfl (by omega) hex rfl rfl ?_ | refine Ab k1 ?_ | refine Ab k2 ?_ | refine Ab k3 ?_ | refine qQba ?_ | fail)
   exact ⟨hlt, rfl, rfl, rfl, rfl, by show AV.int _ _ = AV.int _ _; congr 1, trivial⟩
  ·have h0' : (i : Int) > 0 := by omega
   obtain ⟨b2, hbb2⟩ : ∃ b2, b2 = fs[i - 1]'(by omega) := ⟨_, rfl⟩
   have hM4 := hM2 (i - 1) (by omega)
   have hlt2 : b2 < b := by
    rw [hbb2, hbb]
    have e : i - 1 + 1 = i := by omega
    simp only [e] at hM4
    exact hM4
   have hex2 : (NL fs)[((i : Int) - 1).toNat]? = some (.int .i64 (b2 : Nat)) := by
    rw [show ((i : Int) - 1).toNat = i - 1 by omega]; unfold NL; rw [Az, Aa (by omega), ← hbb2]; rfl
   have p3' : ¬ (b2 : Int) ≥ (b : Int) := by omega
   repeat' (first
    | refine qS ?_ | refine qN ?_ | refine Cz rfl rfl (by omega) hex rfl rfl ?_ | refine Cz rfl rfl (by omega) hex2 rfl rfl ?_ | refine Ab k1 ?_ | refine Ab k2 ?_
    | refine Ab k3 ?_ | refine qQba ?_ | fail)
   exact ⟨hlt, rfl, rfl, rfl, rfl, by show AV.int _ _ = AV.int _ _; congr 1, trivial⟩
 ·skip
  repeat' (first | refine qS ?_ | refine qN ?_ | refine qQb ?_ | fail)
  exact rfl
theorem Axk (k : Nat) (hk : 1000101 ≤ k) {it imf mt mf t f : Bool} {l : List UInt8} {w : WS} {wf : Bool} {m fs w0 w1 w2 i0 i1 i2 fl : List Nat} (hl : fs.length < 1000000) (hml : m.length < 1000000) (hwl : w.m.length < 1000000) (hnl : w.nodes.length < 1000000) (hM : MayP l w m fs) :
  FnV (CF k) So [.iptr true (mkVs it imf l (nb l) false (Gr false wf l w) mt mf m w0 w1 w2 i0 i1 i2 fl), .islc t f 1 (NL fs)] (.bool true) := by
 have hnl : (NL fs).length = fs.length := Cj fs
 refine fnk (by omega) cD rfl ?_
 unfold __build_maker__may
 repeat' (first | refine qS ?_ | refine qN ?_ | refine Bi (n := fs.length) rfl hnl rfl rfl ?_ | refine qQb ?_ | fail)
 refine W.mono (Ano (k := k - 1) (by omega) hl hml hwl (by assumption) hM ⟨rfl, rfl, rfl, rfl, rfl, trivial⟩) ?_
 rintro ex T2 H2 rfl
 show W _ _
 repeat' (first | refine qS ?_ | refine qN ?_ | refine qQb ?_ | refine Af (fun _ => ?_) (fun _ => ?_))
 exact ⟨Or.inr rfl, _, rfl, rfl⟩
structure WSt where
 ios : List IoV
 i0 : List Nat
 i1 : List Nat
 i2 : List Nat
def WSt.put (s : WSt) (lv pl b : Nat) : WSt := match lv with | 0 => { s with i0 := s.i0.set pl b } | 1 => { s with i1 := s.i1.set pl b } | _ => { s with i2 := s.i2.set pl b }
def WSt.below (s : WSt) (m : List Nat) (lv : Nat) : List Nat := match lv with | 0 => m | 1 => s.i0 | _ => s.i1
def WSt.step (s : WSt) (m : List Nat) (lv pl b : Nat) : WSt := { s.put lv pl b with ios := s.ios ++ [wIo b (nodB ⟨lv, oct ((s.put lv pl b).below m lv) pl⟩)] }
def wst (m fl fs : List Nat) (s : WSt) : Nat → WSt
 | 0 => s
 | i + 1 => (wst m fl fs s i).step m (fl.getD (2 * i) 0) (fl.getD (2 * i + 1) 0) (fs.getD i 0)
def xK (m fl fs : List Nat) (s : WSt) : Prop := ∀ i, i < fs.length → 2 * i + 1 < fl.length ∧ (fl.getD (2 * i) 0 ≤ 2 ∧ fl.getD (2 * i + 1) 0 < 8 ^ (2 - fl.getD (2 * i) 0)) ∧ Nod.ok ⟨fl.getD (2 * i) 0, oct ((wst m fl fs s (i + 1)).below m (fl.getD (2 * i) 0)) (fl.getD (2 * i + 1) 0)⟩
theorem qA (m fl fs : List Nat) (s : WSt) : ∀ i, (wst m fl fs s i).ios.length = s.ios.length + i ∧ (wst m fl fs s i).i0.length = s.i0.length ∧ (wst m fl fs s i).i1.length = s.i1.length ∧ (wst m fl fs s i).i2.length = s.i2.length
 | 0 => ⟨rfl, rfl, rfl, rfl⟩
 | i + 1 => by
  obtain ⟨h1, h2, h3, h4⟩ := qA m fl fs s i
  have : ∀ lv pl b : Nat, ((wst m fl fs s i).put lv pl b).i0.length = s.i0.length ∧ ((wst m fl fs s i).put lv pl b).i1.length = s.i1.length ∧ ((wst m fl fs s i).put lv pl b).i2.length = s.i2.length := by
   intro lv pl b
   unfold WSt.put
   split <;> simp [h2, h3, h4]
  refine ⟨?_, this _ _ _⟩
  show (_ ++ [_]).length = _
  rw [Am, h1]; rfl
theorem Afl (k : Nat) (hk : 1 ≤ k) {H : Heap} {img old fr : AV} {mt mf : Bool} {n : Nat} {m w0 w1 w2 i0 i1 i2 : List Nat} (hL : LK H img old (.islc mt mf 1 (NL m)) fr n w0 w1 w2 i0 i1 i2) (hm : m.length = 512) (pl : Nat) (hp : pl < 64) :
  ∃ u H', CF k Hq 34 [.ptr 0 1 1 11 0 0, .int .i64 0, .int .i64 pl] H = some (u, H') ∧ (u = .islc mt (mf && decide (8 * pl + 8 = 512)) 1 (NL (oct m pl)) ∧ H' = H) := by
 obtain ⟨h0, h1, h2, h3, h13, h14, h15, l0, l1, l2, b0, b1, b2⟩ := hL
 have hml : (NL m).length = 512 := by rw [Cj, hm]
 have e1 : (pl : Int) * 8 = ((8 * pl : Nat) : Int) := by omega
 have e2 : ((pl : Int) + 1) * 8 = ((8 * pl + 8 : Nat) : Int) := by omega
 have e3 : ((NL m).drop (8 * pl)).take (8 * pl + 8 - 8 * pl) = NL (oct m pl) := by
  rw [show 8 * pl + 8 - 8 * pl = 8 by omega]; unfold NL oct; rw [Gd, Gt]
 refine fni (by omega) Kh rfl ?_
 unfold Gy
 unfold mkCs at h0
 repeat' (first
  | refine qS ?_ | (rw [e1]) | (rw [e2]) | refine Aw ?_ (hr := by exact h0)
  | refine Dx (n := 512) (a := 8 * pl) (b := 8 * pl + 8) rfl (.inl rfl) hml (Fi rfl) (Fi rfl) (by omega) (by omega) rfl rfl ?_ | refine qQb ?_ | fail)
 refine ⟨Or.inr rfl, _, rfl, ?_, rfl⟩
 show AV.islc _ _ _ _ = _
 rw [e3]
theorem Afp (k : Nat) (hk : 1 ≤ k) {H : Heap} {img old fr mv : AV} {n : Nat} {w0 w1 w2 i0 i1 i2 : List Nat} (hL : LK H img old mv fr n w0 w1 w2 i0 i1 i2) (pl : Nat) (hp : pl < 8) :
  ∃ u H', CF k Hq 34 [.ptr 0 1 1 11 0 0, .int .i64 1, .int .i64 pl] H = some (u, H') ∧ (u = .slc 13 1 64 1 (8 * pl) 8 none ∧ H' = H) := by
 obtain ⟨h0, h1, h2, h3, h13, h14, h15, l0, l1, l2, b0, b1, b2⟩ := hL
 have hml : (NL i0).length = 64 := by rw [Cj, b0]
 have e1 : (pl : Int) * 8 = ((8 * pl : Nat) : Int) := by omega
 have e2 : ((pl : Int) + 1) * 8 = ((8 * pl + 8 : Nat) : Int) := by omega
 refine fni (by omega) Kh rfl ?_
 unfold Gy
 unfold mkCs at h0
 repeat' (first
  | refine qS ?_ | (rw [e1]) | (rw [e2]) | refine En rfl rfl (by decide) (by decide) rfl rfl ?_ | refine Aw ?_ (hr := by exact h0)
  | refine Tz (a := 8 * pl) (b := 8 * pl + 8) rfl (by exact h13) hml (Fi rfl) (Fi rfl) (by omega) (by show 8 * pl + 8 ≤ 64 - 0; omega) (by show 0 + (64 - 0) ≤ 64; omega) rfl rfl ?_
  | refine qQb ?_ | fail)
 refine ⟨Or.inr rfl, _, rfl, ?_, rfl⟩
 show AV.slc 13 1 64 1 (0 + 8 * pl) (8 * pl + 8 - 8 * pl) none = _
 rw [Ct, show 8 * pl + 8 - 8 * pl = 8 by omega]
theorem Aea (k : Nat) (hk : 1 ≤ k) {H : Heap} {img old fr mv : AV} {n : Nat} {w0 w1 w2 i0 i1 i2 : List Nat} (hL : LK H img old mv fr n w0 w1 w2 i0 i1 i2) (pl : Nat) (hp : pl < 1) :
  ∃ u H', CF k Hq 34 [.ptr 0 1 1 11 0 0, .int .i64 2, .int .i64 pl] H = some (u, H') ∧ (u = .slc 14 1 8 1 (8 * pl) 8 none ∧ H' = H) := by
 obtain ⟨h0, h1, h2, h3, h13, h14, h15, l0, l1, l2, b0, b1, b2⟩ := hL
 have hml : (NL i1).length = 8 := by rw [Cj, b1]
 have e1 : (pl : Int) * 8 = ((8 * pl : Nat) : Int) := by omega
 have e2 : ((pl : Int) + 1) * 8 = ((8 * pl + 8 : Nat) : Int) := by omega
 refine fni (by omega) Kh rfl ?_
 unfold Gy
 unfold mkCs at h0
 repeat' (first
  | refine qS ?_ | (rw [e1]) | (rw [e2]) | refine En rfl rfl (by decide) (by decide) rfl rfl ?_ | refine Aw ?_ (hr := by exact h0)
  | refine Tz (a := 8 * pl) (b := 8 * pl + 8) rfl (by exact h14) hml (Fi rfl) (Fi rfl) (by omega) (by show 8 * pl + 8 ≤ 8 - 0; omega) (by show 0 + (8 - 0) ≤ 8; omega) rfl rfl ?_
  | refine qQb ?_ | fail)
 refine ⟨Or.inr rfl, _, rfl, ?_, rfl⟩
 show AV.slc 14 1 8 1 (0 + 8 * pl) (8 * pl + 8 - 8 * pl) none = _
 rw [Ct, show 8 * pl + 8 - 8 * pl = 8 by omega]
theorem oct8 {a : List Nat} {i n : Nat} (h : a.length = 8 * n) (hi : i < n) : (oct a i).length = 8 := by
 unfold oct
 rw [Ay, Bl]; omega
theorem qL : ∀ l : List Nat, (NL l).flatMap AV.cells = NL l
 | [] => rfl
 | a :: l => by show AV.int .i64 (a : Nat) :: (NL l).flatMap AV.cells = _; rw [qL l]; rfl
section
variable {l : List UInt8} {n : Nat} {f mt mf t2 f2 : Bool} {old : AV} {m fs w0 w1 w2 fl : List Nat} {s0 : WSt}
theorem Agw {k gw : Nat} (hk : 1000060 ≤ k) {H : Heap} {T : Tmps} {img old fr : AV} (hm : m.length = 512) (hfl : fs.length < 100000) (h0 : s0.ios = []) (hok : xK m fl fs s0)
  (hL : LK H img old (.islc mt mf 1 (NL m)) fr n w0 w1 w2 s0.i0 s0.i1 s0.i2) (hF : FR H fr fl) (h32 : H 32 = ⟨gw, false, .row 3 []⟩)
  (hT : Has T [(0, .ptr 0 1 1 11 0 0), (5, .slc 32 gw 0 3 0 0 none), (13, .islc t2 f2 1 (NL fs)), (14, .int .i64 fs.length), (15, .int .i64 0)]) :
  W (Bp (CF k) noX 31 k (.loop Nt) T H) (fun ex T' H' => ex = .exit 0 ∧ LK H' img old (.islc mt mf 1 (NL m)) fr n w0 w1 w2 (wst m fl fs s0 fs.length).i0 (wst m fl fs s0 fs.length).i1 (wst m fl fs s0 fs.length).i2 ∧ FR H' fr fl ∧ H' 32 = ⟨gw, false, .row 3 ((wst m fl fs s0 fs.length).ios.map IoV.av)⟩ ∧ Has T' [(5, .slc 32 gw fs.length 3 0 fs.length none)]) := by
 refine Fa fs.length (fun i T' H' => LK H' img old (.islc mt mf 1 (NL m)) fr n w0 w1 w2 (wst m fl fs s0 i).i0 (wst m fl fs s0 i).i1 (wst m fl fs s0 i).i2 ∧ FR H' fr fl ∧ H' 32 = ⟨gw, false, .row 3 ((wst m fl fs s0 i).ios.map IoV.av)⟩ ∧ Has T' [(0, .ptr 0 1 1 11 0 0), (5, .slc 32 gw i 3 0 i none), (13, .islc t2 f2 1 (NL fs)), (14, .int .i64 fs.length), (15, .int .i64 (i : Nat))]) ⟨hL, hF, by rw [show (wst m fl fs s0 0).ios = [] from h0]; exact h32, hT⟩ (by omega) ?_
 clear hL hF hT h32
 rintro i T H2 hi ⟨hL, hF, h32, hT⟩
 rw [hT.eq]
 simp only [over]
 unfold Nt
 by_cases hlt : i < fs.length
 ·obtain ⟨hfi, ⟨hlv, hpl⟩, hno⟩ := hok i hlt
  have hil : (wst m fl fs s0 i).ios.length = i := by rw [(qA m fl fs s0 i).1, h0]; simp
  have hwe : wst m fl fs s0 (i + 1) = (wst m fl fs s0 i).step m (fl.getD (2 * i) 0) (fl.getD (2 * i + 1) 0) (fs.getD i 0) := rfl
  have hx0 : (NL fl)[0 + ((2 : Int) * (i : Nat)).toNat]? = some (.int .i64 (fl.getD (2 * i) 0 : Nat)) := by
   rw [show 0 + ((2 : Int) * (i : Nat)).toNat = 2 * i by omega]
   unfold NL
   rw [Az, Aa (by omega), Ae, Aa (by omega)]; rfl
  have hx1 : (NL fl)[0 + ((2 : Int) * (i : Nat) + 1).toNat]? = some (.int .i64 (fl.getD (2 * i + 1) 0 : Nat)) := by
   rw [show 0 + ((2 : Int) * (i : Nat) + 1).toNat = 2 * i + 1 by omega]
   unfold NL
   rw [Az, Aa (by omega), Ae, Aa (by omega)]; rfl
  have hxb : (NL fs)[(i : Int).toNat]? = some (.int .i64 (fs.getD i 0 : Nat)) := by
   rw [Ax]
   unfold NL
   rw [Az, Aa hlt, Ae, Aa hlt]; rfl
  generalize fs.getD i 0 = b at *
  generalize fl.getD (2 * i + 1) 0 = pl at *
  generalize hst : wst m fl fs s0 i = s at *
  rw [hwe] at hno ⊢
  generalize hlve : fl.getD (2 * i) 0 = lv at *
  clear hwe hlve hst
  rcases hF with ⟨hn0, _⟩ | ⟨hn0, g, rfl, hr30⟩
  ·rw [hn0] at hfi; simp at hfi
  have hNf : (NL fl).length = fl.length := Cj fl
  have hFR : ∀ H : Heap, H 30 = ⟨g, false, .row 1 (NL fl)⟩ → FR H (.slc 30 g fl.length 1 0 fl.length none) fl := fun H h => .inr ⟨hn0, g, rfl, h⟩
  have hL0 := hL
  obtain ⟨g0, g1, g2, g3, g13, g14, g15, l0, l1, l2, b0, b1, b2⟩ := hL
  have hlm : ((s.ios.map IoV.av)).length = i := by rw [Ah, hil]
  have hout : ∀ d : List UInt8, (s.ios.map IoV.av) ++ [.agg [.int .i64 1, .int .i64 (b : Nat), .islc false false 1 (BL d)]] = (s.ios ++ [wIo b d]).map IoV.av := by
   intro d; rw [Br]; rfl
  unfold mkCs at g0
  match lv, hlv with
  | 0, _ =>
   have hpl : pl < 64 := hpl
   have hps : (oct (m) pl).length = 8 := oct8 (n := 64) (by exact hm) hpl
   have hnb := Yh k (by omega) 0 (oct (m) pl) hps hno
   have hpt := fun H3 (h : LK H3 img old (.islc mt mf 1 (NL m)) (.slc 30 g fl.length 1 0 fl.length none) n w0 w1 w2 (s.i0.set pl b) s.i1 s.i2) => Afl k (by omega) h hm pl hpl
   have hNi : (NL s.i0).length = 64 := by rw [Cj, b0]
   have hrow : (⟨1, false, .row 1 ((s.i0.set (0 + (pl : Int).toNat) b).map nav)⟩ : Blk) = ⟨1, false, .row 1 (NL (s.i0.set pl b))⟩ := by
    rw [show 0 + (pl : Int).toNat = pl by omega]; rfl
   generalize hnd : nodB ⟨0, oct (m) pl⟩ = nd at *
   have hLn : ∀ H3 : Heap, H3 0 = H2 0 → H3 1 = H2 1 → H3 2 = H2 2 → H3 3 = H2 3 → H3 13 = ⟨1, false, .row 1 (NL (s.i0.set pl b))⟩ → H3 14 = H2 14 → H3 15 = H2 15 → LK H3 img old (.islc mt mf 1 (NL m)) (.slc 30 g fl.length 1 0 fl.length none) n w0 w1 w2 (s.i0.set pl b) s.i1 s.i2 := by
    intro H3 a0 a1 a2 a3 a13 a14 a15
    exact ⟨by rw [a0]; exact g0, by rw [a1]; exact g1, by rw [a2]; exact g2, by rw [a3]; exact g3, a13, by rw [a14]; exact g14, by rw [a15]; exact g15, l0, l1, l2, by rw [Ee]; exact b0, b1, b2⟩
   have hnrf : Cf (NL (oct (m) pl)) = true := Me _
   have hp8 : (NL (oct (m) pl)).length = 8 := by rw [Cj, hps]
   have hE : ([AV.int .i64 0, .int .i64 0, .int .i64 0, .int .i64 0, .int .i64 0, .int .i64 0, .int .i64 0, .int .i64 0, .int .i64 0] : List AV).take 1 ++ NL (oct (m) pl) ++ ([AV.int .i64 0, .int .i64 0, .int .i64 0, .int .i64 0, .int .i64 0, .int .i64 0, .int .i64 0, .int .i64 0, .int .i64 0] : List AV).drop 9 = AV.int .i64 0 :: NL (oct (m) pl) := by
    show AV.int .i64 0 :: (NL (oct (m) pl) ++ []) = _
    rw [Bz]
   have hln9 : (([AV.int .i64 0, .int .i64 0, .int .i64 0, .int .i64 0, .int .i64 0, .int .i64 0, .int .i64 0, .int .i64 0, .int .i64 0] : List AV).take 1 ++ NL (oct (m) pl) ++ ([AV.int .i64 0, .int .i64 0, .int .i64 0, .int .i64 0, .int .i64 0, .int .i64 0, .int .i64 0, .int .i64 0, .int .i64 0] : List AV).drop 9).length = 9 := by
    rw [hE, Ao, hp8]
   have hfl9 : (([AV.int .i64 0, .int .i64 0, .int .i64 0, .int .i64 0, .int .i64 0, .int .i64 0, .int .i64 0, .int .i64 0, .int .i64 0] : List AV).take 1 ++ NL (oct (m) pl) ++ ([AV.int .i64 0, .int .i64 0, .int .i64 0, .int .i64 0, .int .i64 0, .int .i64 0, .int .i64 0, .int .i64 0, .int .i64 0] : List AV).drop 9).flatMap AV.cells = ([AV.int .i64 0, .int .i64 0, .int .i64 0, .int .i64 0, .int .i64 0, .int .i64 0, .int .i64 0, .int .i64 0, .int .i64 0] : List AV).take 1 ++ NL (oct (m) pl) ++ ([AV.int .i64 0, .int .i64 0, .int .i64 0, .int .i64 0, .int .i64 0, .int .i64 0, .int .i64 0, .int .i64 0, .int .i64 0] : List AV).drop 9 := by
    rw [hE, Cl, qL]; rfl
   have hz9 : ∀ H : Heap, [AV.agg (([AV.int .i64 0, .int .i64 0, .int .i64 0, .int .i64 0, .int .i64 0, .int .i64 0, .int .i64 0, .int .i64 0, .int .i64 0] : List AV).take 1 ++ NL (oct (m) pl) ++ ([AV.int .i64 0, .int .i64 0, .int .i64 0, .int .i64 0, .int .i64 0, .int .i64 0, .int .i64 0, .int .i64 0, .int .i64 0] : List AV).drop 9)].map (fz false 6 H) = [Nod.av ⟨0, oct (m) pl⟩] := by
    intro H
    rw [hE]
    show [AV.agg ((AV.int .i64 0 :: NL (oct (m) pl)).map (fz false (4 + 1) H))] = _
    rw [Bb, aW]; rfl
   repeat' (first
    | refine qS ?_ | refine Cz rfl rfl (by omega) hxb rfl rfl ?_ | refine Aw ?_ (hr := by exact g0)
    | refine Eb rfl rfl (by exact hr30) hNf (by omega) (by omega) (by omega) rfl rfl ?_ | refine Aw ?_ (hr := by exact hr30) (hv0 := by exact hNf) (he := by exact hx0)
    | refine Aw ?_ (hr := by exact hr30) (hv0 := by exact hNf) (he := by exact hx1) | refine En rfl rfl (by decide) (by decide) rfl rfl ?_
    | refine Eb rfl rfl (by exact g13) hNi (by omega) (by omega) (by omega) rfl rfl ?_ | refine Dz (enc := nav) (l := s.i0) (a := b) ?_ (hr := by exact g13) (hv0 := by exact b0)
    | refine gF ?_ | refine Xh rfl rfl rfl rfl (by exact Be rfl) rfl rfl rfl rfl rfl rfl ?_ | refine Ri ?_
    | refine Dd (hpt _ (hLn _ rfl rfl rfl rfl hrow rfl rfl)) rfl rfl rfl (fun u H3 hR => ?_) | (obtain ⟨rfl, rfl⟩ := hR)
    | refine bM rfl rfl (.inl rfl) (by exact hnrf) rfl rfl (by exact Be rfl) (by exact hp8) rfl rfl ?_
    | refine Xl rfl rfl (by exact hln9) rfl (by exact Be rfl) (by exact hfl9) rfl rfl ?_ | refine Ab hnb ?_ rfl (by exact hz9 _)
    | refine Gw ?_ (hc := by kernel_rfl) | refine Sg rfl rfl rfl (by exact h32) hlm rfl (by omega) rfl rfl ?_ | refine qQba ?_ | refine Bu fun _ => ?_)
   refine ⟨hlt, hLn _ rfl rfl rfl rfl hrow rfl rfl, hFR _ hr30, ?_, rfl, rfl, rfl, rfl, by show AV.int _ _ = AV.int _ _; congr 1, trivial⟩
   show (⟨gw, false, .row 3 ((s.ios.map IoV.av) ++ [.agg [.int .i64 1, .int .i64 (b : Nat), .islc false false 1 (BL nd)]])⟩ : Blk) = _
   rw [hout nd, ← hnd]; rfl
  | 1, _ =>
   have hpl : pl < 8 := hpl
   have hps : (oct (s.i0) pl).length = 8 := oct8 (n := 8) (by rw [b0]) hpl
   have hnb := Yh k (by omega) 1 (oct (s.i0) pl) hps hno
   have hpt := fun H3 (h : LK H3 img old (.islc mt mf 1 (NL m)) (.slc 30 g fl.length 1 0 fl.length none) n w0 w1 w2 s.i0 (s.i1.set pl b) s.i2) => Afp k (by omega) h pl hpl
   have hNi : (NL s.i1).length = 8 := by rw [Cj, b1]
   have hrow : (⟨1, false, .row 1 ((s.i1.set (0 + (pl : Int).toNat) b).map nav)⟩ : Blk) = ⟨1, false, .row 1 (NL (s.i1.set pl b))⟩ := by
    rw [show 0 + (pl : Int).toNat = pl by omega]; rfl
   generalize hnd : nodB ⟨1, oct (s.i0) pl⟩ = nd at *
   have hLn : ∀ H3 : Heap, H3 0 = H2 0 → H3 1 = H2 1 → H3 2 = H2 2 → H3 3 = H2 3 → H3 13 = H2 13 → H3 14 = ⟨1, false, .row 1 (NL (s.i1.set pl b))⟩ → H3 15 = H2 15 → LK H3 img old (.islc mt mf 1 (NL m)) (.slc 30 g fl.length 1 0 fl.length none) n w0 w1 w2 s.i0 (s.i1.set pl b) s.i2 := by
    intro H3 a0 a1 a2 a3 a13 a14 a15
    exact ⟨by rw [a0]; exact g0, by rw [a1]; exact g1, by rw [a2]; exact g2, by rw [a3]; exact g3, by rw [a13]; exact g13, a14, by rw [a15]; exact g15, l0, l1, l2, b0, by rw [Ee]; exact b1, b2⟩
   have hnrf : Cf (NL (oct (s.i0) pl)) = true := Me _
   have hp8 : (NL (oct (s.i0) pl)).length = 8 := by rw [Cj, hps]
   have hE : ([AV.int .i64 1, .int .i64 0, .int .i64 0, .int .i64 0, .int .i64 0, .int .i64 0, .int .i64 0, .int .i64 0, .int .i64 0] : List AV).take 1 ++ NL (oct (s.i0) pl) ++ ([AV.int .i64 1, .int .i64 0, .int .i64 0, .int .i64 0, .int .i64 0, .int .i64 0, .int .i64 0, .int .i64 0, .int .i64 0] : List AV).drop 9 = AV.int .i64 1 :: NL (oct (s.i0) pl) := by
    show AV.int .i64 1 :: (NL (oct (s.i0) pl) ++ []) = _
    rw [Bz]
   have hln9 : (([AV.int .i64 1, .int .i64 0, .int .i64 0, .int .i64 0, .int .i64 0, .int .i64 0, .int .i64 0, .int .i64 0, .int .i64 0] : List AV).take 1 ++ NL (oct (s.i0) pl) ++ ([AV.int .i64 1, .int .i64 0, .int .i64 0, .int .i64 0, .int .i64 0, .int .i64 0, .int .i64 0, .int .i64 0, .int .i64 0] : List AV).drop 9).length = 9 := by
    rw [hE, Ao, hp8]
   have hfl9 : (([AV.int .i64 1, .int .i64 0, .int .i64 0, .int .i64 0, .int .i64 0, .int .i64 0, .int .i64 0, .int .i64 0, .int .i64 0] : List AV).take 1 ++ NL (oct (s.i0) pl) ++ ([AV.int .i64 1, .int .i64 0, .int .i64 0, .int .i64 0, .int .i64 0, .int .i64 0, .int .i64 0, .int .i64 0, .int .i64 0] : List AV).drop 9).flatMap AV.cells = ([AV.int .i64 1, .int .i64 0, .int .i64 0, .int .i64 0, .int .i64 0, .int .i64 0, .int .i64 0, .int .i64 0, .int .i64 0] : List AV).take 1 ++ NL (oct (s.i0) pl) ++ ([AV.int .i64 1, .int .i64 0, .int .i64 0, .int .i64 0, .int .i64 0, .int .i64 0, .int .i64 0, .int .i64 0, .int .i64 0] : List AV).drop 9 := by
    rw [hE, Cl, qL]; rfl
   have hz9 : ∀ H : Heap, [AV.agg (([AV.int .i64 1, .int .i64 0, .int .i64 0, .int .i64 0, .int .i64 0, .int .i64 0, .int .i64 0, .int .i64 0, .int .i64 0] : List AV).take 1 ++ NL (oct (s.i0) pl) ++ ([AV.int .i64 1, .int .i64 0, .int .i64 0, .int .i64 0, .int .i64 0, .int .i64 0, .int .i64 0, .int .i64 0, .int .i64 0] : List AV).drop 9)].map (fz false 6 H) = [Nod.av ⟨1, oct (s.i0) pl⟩] := by
    intro H
    rw [hE]
    show [AV.agg ((AV.int .i64 1 :: NL (oct (s.i0) pl)).map (fz false (4 + 1) H))] = _
    rw [Bb, aW]; rfl
   have hNb : (NL (s.i0)).length = 64 := by rw [Cj, b0]
   have hm8 : ((NL (s.i0)).drop (8 * pl)).take 8 = NL (oct (s.i0) pl) := by unfold NL oct; rw [Gd, Gt]
   repeat' (first
    | refine qS ?_ | refine Cz rfl rfl (by omega) hxb rfl rfl ?_ | refine Aw ?_ (hr := by exact g0)
    | refine Eb rfl rfl (by exact hr30) hNf (by omega) (by omega) (by omega) rfl rfl ?_ | refine Aw ?_ (hr := by exact hr30) (hv0 := by exact hNf) (he := by exact hx0)
    | refine Aw ?_ (hr := by exact hr30) (hv0 := by exact hNf) (he := by exact hx1) | refine En rfl rfl (by decide) (by decide) rfl rfl ?_
    | refine Eb rfl rfl (by exact g14) hNi (by omega) (by omega) (by omega) rfl rfl ?_ | refine Dz (enc := nav) (l := s.i1) (a := b) ?_ (hr := by exact g14) (hv0 := by exact b1)
    | refine gF ?_ | refine Xh rfl rfl rfl rfl (by exact Be rfl) rfl rfl rfl rfl rfl rfl ?_ | refine Ri ?_
    | refine Dd (hpt _ (hLn _ rfl rfl rfl rfl rfl hrow rfl)) rfl rfl rfl (fun u H3 hR => ?_) | (obtain ⟨rfl, rfl⟩ := hR)
    | refine Agp (m := NL (oct (s.i0) pl)) rfl rfl (by exact g13) (by exact hNb) (by omega) (by exact hm8) (by exact hnrf) rfl rfl (by exact Be rfl) rfl rfl ?_
    | refine Xl rfl rfl (by exact hln9) rfl (by exact Be rfl) (by exact hfl9) rfl rfl ?_ | refine Ab hnb ?_ rfl (by exact hz9 _)
    | refine Gw ?_ (hc := by kernel_rfl) | refine Sg rfl rfl rfl (by exact h32) hlm rfl (by omega) rfl rfl ?_ | refine qQba ?_ | refine Bu fun _ => ?_)
   refine ⟨hlt, hLn _ rfl rfl rfl rfl rfl hrow rfl, hFR _ hr30, ?_, rfl, rfl, rfl, rfl, by show AV.int _ _ = AV.int _ _; congr 1, trivial⟩
   show (⟨gw, false, .row 3 ((s.ios.map IoV.av) ++ [.agg [.int .i64 1, .int .i64 (b : Nat), .islc false false 1 (BL nd)]])⟩ : Blk) = _
   rw [hout nd, ← hnd]; rfl
  | 2, _ =>
   have hpl : pl < 1 := hpl
   have hps : (oct (s.i1) pl).length = 8 := oct8 (n := 1) (by rw [b1]) hpl
   have hnb := Yh k (by omega) 2 (oct (s.i1) pl) hps hno
   have hpt := fun H3 (h : LK H3 img old (.islc mt mf 1 (NL m)) (.slc 30 g fl.length 1 0 fl.length none) n w0 w1 w2 s.i0 s.i1 (s.i2.set pl b)) => Aea k (by omega) h pl hpl
   have hNi : (NL s.i2).length = 1 := by rw [Cj, b2]
   have hrow : (⟨1, false, .row 1 ((s.i2.set (0 + (pl : Int).toNat) b).map nav)⟩ : Blk) = ⟨1, false, .row 1 (NL (s.i2.set pl b))⟩ := by
    rw [show 0 + (pl : Int).toNat = pl by omega]; rfl
   generalize hnd : nodB ⟨2, oct (s.i1) pl⟩ = nd at *
   have hLn : ∀ H3 : Heap, H3 0 = H2 0 → H3 1 = H2 1 → H3 2 = H2 2 → H3 3 = H2 3 → H3 13 = H2 13 → H3 14 = H2 14 → H3 15 = ⟨1, false, .row 1 (NL (s.i2.set pl b))⟩ → LK H3 img old (.islc mt mf 1 (NL m)) (.slc 30 g fl.length 1 0 fl.length none) n w0 w1 w2 s.i0 s.i1 (s.i2.set pl b) := by
    intro H3 a0 a1 a2 a3 a13 a14 a15
    exact ⟨by rw [a0]; exact g0, by rw [a1]; exact g1, by rw [a2]; exact g2, by rw [a3]; exact g3, by rw [a13]; exact g13, by rw [a14]; exact g14, a15, l0, l1, l2, b0, b1, by rw [Ee]; exact b2⟩
   have hnrf : Cf (NL (oct (s.i1) pl)) = true := Me _
   have hp8 : (NL (oct (s.i1) pl)).length = 8 := by rw [Cj, hps]
   have hE : ([AV.int .i64 2, .int .i64 0, .int .i64 0, .int .i64 0, .int .i64 0, .int .i64 0, .int .i64 0, .int .i64 0, .int .i64 0] : List AV).take 1 ++ NL (oct (s.i1) pl) ++ ([AV.int .i64 2, .int .i64 0, .int .i64 0, .int .i64 0, .int .i64 0, .int .i64 0, .int .i64 0, .int .i64 0, .int .i64 0] : List AV).drop 9 = AV.int .i64 2 :: NL (oct (s.i1) pl) := by
    show AV.int .i64 2 :: (NL (oct (s.i1) pl) ++ []) = _
    rw [Bz]
   have hln9 : (([AV.int .i64 2, .int .i64 0, .int .i64 0, .int .i64 0, .int .i64 0, .int .i64 0, .int .i64 0, .int .i64 0, .int .i64 0] : List AV).take 1 ++ NL (oct (s.i1) pl) ++ ([AV.int .i64 2, .int .i64 0, .int .i64 0, .int .i64 0, .int .i64 0, .int .i64 0, .int .i64 0, .int .i64 0, .int .i64 0] : List AV).drop 9).length = 9 := by
    rw [hE, Ao, hp8]
   have hfl9 : (([AV.int .i64 2, .int .i64 0, .int .i64 0, .int .i64 0, .int .i64 0, .int .i64 0, .int .i64 0, .int .i64 0, .int .i64 0] : List AV).take 1 ++ NL (oct (s.i1) pl) ++ ([AV.int .i64 2, .int .i64 0, .int .i64 0, .int .i64 0, .int .i64 0, .int .i64 0, .int .i64 0, .int .i64 0, .int .i64 0] : List AV).drop 9).flatMap AV.cells = ([AV.int .i64 2, .int .i64 0, .int .i64 0, .int .i64 0, .int .i64 0, .int .i64 0, .int .i64 0, .int .i64 0, .int .i64 0] : List AV).take 1 ++ NL (oct (s.i1) pl) ++ ([AV.int .i64 2, .int .i64 0, .int .i64 0, .int .i64 0, .int .i64 0, .int .i64 0, .int .i64 0, .int .i64 0, .int .i64 0] : List AV).drop 9 := by
    rw [hE, Cl, qL]; rfl
   have hz9 : ∀ H : Heap, [AV.agg (([AV.int .i64 2, .int .i64 0, .int .i64 0, .int .i64 0, .int .i64 0, .int .i64 0, .int .i64 0, .int .i64 0, .int .i64 0] : List AV).take 1 ++ NL (oct (s.i1) pl) ++ ([AV.int .i64 2, .int .i64 0, .int .i64 0, .int .i64 0, .int .i64 0, .int .i64 0, .int .i64 0, .int .i64 0, .int .i64 0] : List AV).drop 9)].map (fz false 6 H) = [Nod.av ⟨2, oct (s.i1) pl⟩] := by
    intro H
    rw [hE]
    show [AV.agg ((AV.int .i64 2 :: NL (oct (s.i1) pl)).map (fz false (4 + 1) H))] = _
    rw [Bb, aW]; rfl
   have hNb : (NL (s.i1)).length = 8 := by rw [Cj, b1]
   have hm8 : ((NL (s.i1)).drop (8 * pl)).take 8 = NL (oct (s.i1) pl) := by unfold NL oct; rw [Gd, Gt]
   repeat' (first
    | refine qS ?_ | refine Cz rfl rfl (by omega) hxb rfl rfl ?_ | refine Aw ?_ (hr := by exact g0)
    | refine Eb rfl rfl (by exact hr30) hNf (by omega) (by omega) (by omega) rfl rfl ?_ | refine Aw ?_ (hr := by exact hr30) (hv0 := by exact hNf) (he := by exact hx0)
    | refine Aw ?_ (hr := by exact hr30) (hv0 := by exact hNf) (he := by exact hx1) | refine En rfl rfl (by decide) (by decide) rfl rfl ?_
    | refine Eb rfl rfl (by exact g15) hNi (by omega) (by omega) (by omega) rfl rfl ?_ | refine Dz (enc := nav) (l := s.i2) (a := b) ?_ (hr := by exact g15) (hv0 := by exact b2)
    | refine gF ?_ | refine Xh rfl rfl rfl rfl (by exact Be rfl) rfl rfl rfl rfl rfl rfl ?_ | refine Ri ?_
    | refine Dd (hpt _ (hLn _ rfl rfl rfl rfl rfl rfl hrow)) rfl rfl rfl (fun u H3 hR => ?_) | (obtain ⟨rfl, rfl⟩ := hR)
    | refine Agp (m := NL (oct (s.i1) pl)) rfl rfl (by exact g14) (by exact hNb) (by omega) (by exact hm8) (by exact hnrf) rfl rfl (by exact Be rfl) rfl rfl ?_
    | refine Xl rfl rfl (by exact hln9) rfl (by exact Be rfl) (by exact hfl9) rfl rfl ?_ | refine Ab hnb ?_ rfl (by exact hz9 _)
    | refine Gw ?_ (hc := by kernel_rfl) | refine Sg rfl rfl rfl (by exact h32) hlm rfl (by omega) rfl rfl ?_ | refine qQba ?_ | refine Bu fun _ => ?_)
   refine ⟨hlt, hLn _ rfl rfl rfl rfl rfl rfl hrow, hFR _ hr30, ?_, rfl, rfl, rfl, rfl, by show AV.int _ _ = AV.int _ _; congr 1, trivial⟩
   show (⟨gw, false, .row 3 ((s.ios.map IoV.av) ++ [.agg [.int .i64 1, .int .i64 (b : Nat), .islc false false 1 (BL nd)]])⟩ : Blk) = _
   rw [hout nd, ← hnd]; rfl
 ·skip
  repeat' (first | refine qQb ?_ | refine Bu fun _ => ?_)
  have hin : i = fs.length := by omega
  subst hin
  exact ⟨rfl, hL, hF, h32, rfl, trivial⟩
end
end Go.Proofs.YtkpndfkpdnknkaaGreat
set_option maxRecDepth 10000
set_option maxHeartbeats 16000000
namespace Go.Proofs.YtkpndfkpdnknkaaGreat
open Go.AI
def Ux (l : List UInt8) (root : Nat) (m : List Nat) (w : WS) : List Nat := Of m w.m (was3 l root).1 (was3 l root).2.1 (was3 l root).2.2
def Dq (l : List UInt8) (root : Nat) (m : List Nat) (w : WS) : Nat := (Ux l root m w).length / 2
def Rl (l : List UInt8) (root : Nat) (m : List Nat) (w : WS) : WSt := ⟨[], isR m w.m (was3 l root).1 0 64, isR m w.m (was3 l root).2.1 1 8, isR m w.m (was3 l root).2.2 2 1⟩
def Vc (l : List UInt8) (root : Nat) (m : List Nat) (w : WS) (fs : List Nat) : WSt := wst m (Ux l root m w) (fs.take (Dq l root m w)) (Rl l root m w) (fs.take (Dq l root m w)).length
def Aht (l : List UInt8) (root : Nat) (m : List Nat) (w : WS) (fs : List Nat) : AV :=
 if fs.length < Dq l root m w then .tup [.int .i64 0, .islc false true 0 [], .islc false true 0 [], .int .i64 9]
 else .tup [.int .i64 ((Vc l root m w fs).i2.getD 0 0 : Nat), .islc false false 3 ((Vc l root m w fs).ios.map IoV.av), .islc false false 1 (NL (fs.drop (Dq l root m w))), .int .i64 0]
theorem Avs (m fl fs : List Nat) (s : WSt) (h : ∀ x ∈ s.ios, x.t = false) : ∀ i, ∀ x ∈ (wst m fl fs s i).ios, x.t = false
 | 0 => h
 | i + 1 => by
  intro x hx
  rcases Bq.1 hx with hx | hx
  ·exact Avs m fl fs s h i x hx
  ·rw [Bo.1 hx]; rfl
attribute [local irreducible] aops Bp Cs Df aop W WO
theorem Arp (k : Nat) (hk : 1000070 ≤ k) {H : Heap} {img old fr : AV} {n : Nat} {mt mf t2 f2 : Bool} {m fs w0 w1 w2 fl : List Nat} {s0 : WSt} (hm : m.length = 512) (hfl : fs.length < 100000) (h0 : s0.ios = []) (hok : xK m fl fs s0)
  (hL : LK H img old (.islc mt mf 1 (NL m)) fr n w0 w1 w2 s0.i0 s0.i1 s0.i2) (hF : FR H fr fl) :
  ∃ u H', CF k Le 31 [.ptr 0 1 1 11 0 0, .islc t2 f2 1 (NL fs)] H = some (u, H') ∧ ((∃ gw, u = .slc 32 gw fs.length 3 0 fs.length none ∧ H' 32 = ⟨gw, false, .row 3 ((wst m fl fs s0 fs.length).ios.map IoV.av)⟩) ∧ LK H' img old (.islc mt mf 1 (NL m)) fr n w0 w1 w2 (wst m fl fs s0 fs.length).i0 (wst m fl fs s0 fs.length).i1 (wst m fl fs s0 fs.length).i2 ∧ FR H' fr fl) := by
 have hnl : (NL fs).length = fs.length := Cj fs
 obtain ⟨a0, a1, a2, a3, a13, a14, a15, l0, l1, l2, b0, b1, b2⟩ := hL
 refine fni (by omega) Wz rfl ?_
 unfold __build_maker__writes
 repeat' (first | refine qS ?_ | refine Bi (n := fs.length) rfl hnl rfl rfl ?_ | refine qQb ?_ | refine Af (fun _ => ?_) (fun _ => ?_) | refine Bu fun _ => ?_)
 refine W.mono (Agw (k := k - 1) (gw := (H 32).gen + 1) (by omega) hm hfl h0 hok ⟨a0, a1, a2, a3, a13, a14, a15, l0, l1, l2, b0, b1, b2⟩ ?_ rfl ⟨rfl, rfl, rfl, rfl, rfl, trivial⟩) ?_
 ·rcases hF with h | ⟨h1, g, h2, h3⟩
  ·exact .inl h
  ·exact .inr ⟨h1, g, h2, h3⟩
 ·rintro ex T2 H2 ⟨rfl, hL2, hF2, h32, hT2⟩
  rw [hT2.eq]
  simp only [over]
  show W _ _
  repeat' (first | refine qQb ?_ | refine Af (fun _ => ?_) (fun _ => ?_) | refine Bu fun _ => ?_)
  exact ⟨Or.inr rfl, _, rfl, ⟨_, rfl, h32⟩, hL2, hF2⟩
theorem Awq (k : Nat) (hk : 1000110 ≤ k) (f mt mf t2 f2 : Bool) (l : List UInt8) (hd : Dev l) (root : Nat) {w : WS} (h : goP l root = some w) (hw : w.m.length = 512) (hwn : w.nodes.length < 1000000) (m : List Nat) (hm : m.length = 512) (hmr : ∀ a ∈ m, a = 0 ∨ 2 ≤ a ∧ a < nb l)
  (hr : root ≠ 0 → 2 ≤ root ∧ root < nb l) (hrp : root ≠ 0 → ∀ p ∈ (Cw (blk l root)).1.ptr, p ≠ 0 → 2 ≤ p ∧ p < nb l) (fs : List Nat) (hfs : fs.length < 100000) (hM : MayP l w m fs) (hok : Dq l root m w ≤ fs.length → xK m (Ux l root m w) (fs.take (Dq l root m w)) (Rl l root m w)) :
  FnV (CF k) iR [.islc false f 1 (BL l), .int .i64 root, .islc mt mf 1 (NL m), .islc t2 f2 1 (NL fs)] (Aht l root m w fs) := by
 obtain ⟨u0, H0, hb, ⟨fr, hR⟩, hu0⟩ := Atb (k - 1) (by omega) f mt mf l hd root h hw m hm hmr hr hrp
 subst hu0
 have hb' : CF (k - 1) Wj (0 + 0) [.islc false f 1 (BL l), .int .i64 root, .islc mt mf 1 (NL m)] Heap.none = some (.tup [.ptr 0 1 1 11 0 0, .int .i64 0], H0) := hb
 obtain ⟨hL, hF⟩ := hR
 have hnl : (NL fs).length = fs.length := Cj fs
 have hz : ∀ (H : Heap) (xs : List AV), LK H (.islc false f 1 (BL l)) (.iptr false (Gr false f l w)) (.islc mt mf 1 (NL m)) fr (nb l) (was3 l root).1 (was3 l root).2.1 (was3 l root).2.2 (isR m w.m (was3 l root).1 0 64) (isR m w.m (was3 l root).2.1 1 8) (isR m w.m (was3 l root).2.2 2 1) → FR H fr (Of m w.m (was3 l root).1 (was3 l root).2.1 (was3 l root).2.2) → xs.map (fz false 6 H) = xs → (AV.ptr 0 1 1 11 0 0 :: xs).map (fz false 6 H) = .iptr true (mkVs false f l (nb l) false (Gr false f l w) mt mf m (was3 l root).1 (was3 l root).2.1 (was3 l root).2.2 (isR m w.m (was3 l root).1 0 64) (isR m w.m (was3 l root).2.1 1 8) (isR m w.m (was3 l root).2.2 2 1) (Of m w.m (was3 l root).1 (was3 l root).2.1 (was3 l root).2.2)) :: xs := by
  intro H xs hL hF hx
  rw [Bb, hx]
  exact Bk (fun z => z :: xs) (Afu hL hF 3)
 have hmay := Axk (k - 1) (by omega) (it := false) (imf := f) (mt := mt) (mf := mf) (t := t2) (f := f2) (l := l) (w := w) (wf := f) (m := m) (fs := fs) (w0 := (was3 l root).1) (w1 := (was3 l root).2.1) (w2 := (was3 l root).2.2) (i0 := isR m w.m (was3 l root).1 0 64) (i1 := isR m w.m (was3 l root).2.1 1 8) (i2 := isR m w.m (was3 l root).2.2 2 1) (fl := Of m w.m (was3 l root).1 (was3 l root).2.1 (was3 l root).2.2) (by omega) (by omega) (by omega) hwn hM
 have hnd := fun i0 i1 i2 => Avd (k - 1) (by omega) false f l (nb l) false (Gr false f l w) mt mf m (was3 l root).1 (was3 l root).2.1 (was3 l root).2.2 i0 i1 i2 (Of m w.m (was3 l root).1 (was3 l root).2.1 (was3 l root).2.2) (by have := Ajt m w.m (was3 l root).1 (was3 l root).2.1 (was3 l root).2.2; omega)
 have hz1 := hz H0 [] hL hF rfl
 have hz2 := hz H0 [.islc t2 f2 1 (NL fs)] hL hF rfl
 have hnd0 := hnd (isR m w.m (was3 l root).1 0 64) (isR m w.m (was3 l root).2.1 1 8) (isR m w.m (was3 l root).2.2 2 1)
 have hnde : (Of m w.m (was3 l root).1 (was3 l root).2.1 (was3 l root).2.2).length / 2 = Dq l root m w := rfl
 rw [hnde] at hnd0
 have hnd1 : ∀ i0 i1 i2, FnV (CF (k - 1)) Ls [.iptr true (mkVs false f l (nb l) false (Gr false f l w) mt mf m (was3 l root).1 (was3 l root).2.1 (was3 l root).2.2 i0 i1 i2 (Of m w.m (was3 l root).1 (was3 l root).2.1 (was3 l root).2.2))] (.int .i64 (Dq l root m w : Nat)) := hnd
 refine fnk (by omega) Aba rfl ?_
 unfold gD Aht
 by_cases hlt : fs.length < Dq l root m w
 ·rw [if_pos hlt]
  generalize Dq l root m w = nd at *
  have hlt' : (fs.length : Int) < (nd : Int) := by omega
  repeat' (first | refine qS ?_ | refine Ia hb' rfl rfl rfl ?_ | refine Ab hmay ?_ rfl (by exact hz2) | refine Bi (n := fs.length) rfl hnl rfl rfl ?_ | refine Ab hnd0 ?_ rfl (by exact hz1) | refine qQb ?_ | fail)
  exact ⟨Or.inr rfl, _, rfl, rfl⟩
 ·rw [if_neg hlt]
  have hok := hok (by omega)
  have hwr := Arp (k - 1) (by omega) (t2 := t2) (f2 := f2 && decide (Dq l root m w = fs.length)) (fs := fs.take (Dq l root m w)) hm (by rw [Ay]; omega) rfl hok hL hF
  have hS : wst m (Ux l root m w) (fs.take (Dq l root m w)) (Rl l root m w) (fs.take (Dq l root m w)).length = Vc l root m w fs := rfl
  have hlen := qA m (Ux l root m w) (fs.take (Dq l root m w)) (Rl l root m w) (fs.take (Dq l root m w)).length
  have htt := Avs m (Ux l root m w) (fs.take (Dq l root m w)) (Rl l root m w) (by intro x hx; cases hx) (fs.take (Dq l root m w)).length
  change ∃ u H', CF (k - 1) Le 31 _ H0 = some (u, H') ∧ ((∃ gw, u = .slc 32 gw (fs.take (Dq l root m w)).length 3 0 (fs.take (Dq l root m w)).length none ∧ H' 32 = ⟨gw, false, .row 3 ((Vc l root m w fs).ios.map IoV.av)⟩) ∧ LK H' _ _ _ fr (nb l) (was3 l root).1 (was3 l root).2.1 (was3 l root).2.2 (Vc l root m w fs).i0 (Vc l root m w fs).i1 (Vc l root m w fs).i2 ∧ FR H' fr (Of m w.m (was3 l root).1 (was3 l root).2.1 (was3 l root).2.2)) at hwr
  rw [hS] at hlen htt
  obtain ⟨q1, q2, q3, q4⟩ := hlen
  have q1 : (Vc l root m w fs).ios.length = (fs.take (Dq l root m w)).length := by rw [q1]; simp [Rl]
  rw [← q1] at hwr
  generalize Vc l root m w fs = S at *
  generalize Dq l root m w = nd at *
  have hlt' : ¬ (fs.length : Int) < (nd : Int) := by omega
  have e1 : ((NL fs).drop 0).take (nd - 0) = NL (fs.take nd) := by rw [Cd, wE]; unfold NL; rw [Gd]
  have e2 : ((NL fs).drop nd).take (fs.length - nd) = NL (fs.drop nd) := by rw [Aj (by rw [Bl, hnl]; exact Bc _)]; unfold NL; rw [Gt]
  have c2 := jR (k - 1) (by omega) t2 (f2 && decide (fs.length = fs.length)) (NL (fs.drop nd)) (Me _) (fun n H => aW true n H _) (by rw [Cj, Bl]; omega)
  have z2 : ∀ H : Heap, [AV.islc t2 (f2 && decide (fs.length = fs.length)) 1 (((NL fs).drop nd).take (fs.length - nd))].map (fz false 6 H) = [.islc t2 (f2 && decide (fs.length = fs.length)) 1 (NL (fs.drop nd))] := fun H => by rw [e2]; rfl
  repeat' (first
   | refine qS ?_ | refine Ia hb' rfl rfl rfl ?_ | refine Ab hmay ?_ rfl (by exact hz2) | refine Bi (n := fs.length) rfl hnl rfl rfl ?_
   | refine Ab hnd0 ?_ rfl (by exact hz1) | refine Dx (n := fs.length) (a := 0) (b := nd) rfl (.inl rfl) hnl rfl (Fi rfl) (by omega) (by omega) rfl rfl ?_ | (rw [e1])
   | refine Dd hwr rfl rfl rfl (fun u H3 hR => ?_) | refine qQb ?_ | fail)
  obtain ⟨⟨gw, rfl, h32⟩, hL3, hF3⟩ := hR
  have hz3 : ∀ H : Heap, [AV.ptr 0 1 1 11 0 0].map (fz false 6 H3) = [.iptr true (mkVs false f l (nb l) false (Gr false f l w) mt mf m (was3 l root).1 (was3 l root).2.1 (was3 l root).2.2 S.i0 S.i1 S.i2 (Of m w.m (was3 l root).1 (was3 l root).2.1 (was3 l root).2.2))] := fun _ => Bk (fun z => [z]) (Afu hL3 hF3 3)
  have hi2 : S.i2.length = 1 := hL3.m2
  have hrt : (NL S.i2)[0]? = some (.int .i64 (S.i2.getD 0 0 : Nat)) := by
   unfold NL
   rw [Az, Aa (by omega), Ae, Aa (by omega)]; rfl
  have hN2 : (NL S.i2).length = 1 := by rw [Cj, hi2]
  have g0 := hL3.h0
  have g15 := hL3.h15
  unfold mkCs at g0
  repeat' (first
   | refine qS ?_ | refine En rfl rfl (by decide) (by decide) rfl rfl ?_ | refine Aw ?_ (hr := by exact g0)
   | refine Eb rfl rfl (by exact g15) hN2 (by omega) (by omega) (by omega) rfl rfl ?_ | refine Aw ?_ (hr := by exact g15) (hv0 := by exact hN2) (he := by exact hrt)
   | refine Ab (hnd1 S.i0 S.i1 S.i2) ?_ rfl (by exact hz3 Heap.none)
   | refine Dx (n := fs.length) (a := nd) (b := fs.length) rfl (.inl rfl) hnl (Fi rfl) rfl (by omega) (Bc _) rfl rfl ?_ | refine Ab c2 ?_ rfl (by exact z2 _)
   | refine qQb ?_ | fail)
  refine ⟨Or.inr rfl, _, rfl, ?_⟩
  exact Bk (fun z => AV.tup [.int .i64 (S.i2.getD 0 0 : Nat), z, .islc false false 1 (NL (fs.drop nd)), .int .i64 0]) (Abd (out := true) h32 rfl htt 2)
structure St where
 m : List Nat
 size : Nat
 nw : List (Nat × List UInt8)
def nGet (k : Nat) : List (Nat × List UInt8) → Option (List UInt8)
 | [] => none
 | (a, v) :: r => if k = a then some v else nGet k r
def nSet (k : Nat) (v : List UInt8) : List (Nat × List UInt8) → List (Nat × List UInt8)
 | [] => [(k, v)]
 | (a, u) :: r => if k = a then (a, v) :: r else (a, u) :: nSet k v r
def nDel (k : Nat) : List (Nat × List UInt8) → List (Nat × List UInt8)
 | [] => []
 | (a, u) :: r => if k = a then r else (a, u) :: nDel k r
def encB (d : List UInt8) : AV := .islc false false 1 (BL d)
def nwE (l : List (Nat × List UInt8)) : List (Int × AV) := l.map fun p => ((p.1 : Int), encB p.2)
theorem Aki (k : Nat) : ∀ l : List (Nat × List UInt8), Vd k (nwE l) = (nGet k l).map encB
 | [] => rfl
 | (a, v) :: r => by
  show (if (k : Int) = (a : Int) then some (encB v) else Vd k (nwE r)) = _
  unfold nGet
  by_cases h : k = a
  ·rw [if_pos h, if_pos (by omega)]; rfl
  ·rw [if_neg h, if_neg (by omega), Aki k r]
theorem Alf (k : Nat) (v : List UInt8) : ∀ l : List (Nat × List UInt8), Qf k (encB v) (nwE l) = nwE (nSet k v l)
 | [] => rfl
 | (a, u) :: r => by
  show (if (k : Int) = (a : Int) then ((a : Int), encB v) :: nwE r else ((a : Int), encB u) :: Qf k (encB v) (nwE r)) = _
  unfold nSet
  by_cases h : k = a
  ·rw [if_pos h, if_pos (by omega)]; rfl
  ·rw [if_neg h, if_neg (by omega), Alf k v r]; rfl
theorem Ald (k : Nat) : ∀ l : List (Nat × List UInt8), Qc k (nwE l) = nwE (nDel k l)
 | [] => rfl
 | (a, u) :: r => by
  show (if (k : Int) = (a : Int) then nwE r else ((a : Int), encB u) :: Qc k (nwE r)) = _
  unfold nDel
  by_cases h : k = a
  ·rw [if_pos h, if_pos (by omega)]
  ·rw [if_neg h, if_neg (by omega), Ald k r]; rfl
theorem Aks (l : List (Nat × List UInt8)) : (nwE l).length = l.length := by unfold nwE; rw [Ah]
structure StAt (H : Heap) (s : St) : Prop where
 h0 : H 0 = ⟨1, false, .row 1 (NL s.m)⟩
 h1 : H 1 = ⟨1, false, .map (nwE s.nw)⟩
 h2 : H 2 = ⟨1, false, .row 3 [.agg [.slc 0 1 512 1 0 512 none, .int .i64 s.size, .mp 1 1]]⟩
 len : s.m.length = 512
def St.put (s : St) (i a : Nat) : St := ⟨s.m.set i a, s.size, nDel i s.nw⟩
def St.zero (s : St) (frm : Nat) : Nat → St
 | 0 => s
 | n + 1 => (s.zero frm n).put (frm + n) 0
def St.write (s : St) (frm : Nat) (d : List UInt8) : Nat → St
 | 0 => s
 | n + 1 => let q := (s.write frm d n).put (frm + n) 0; ⟨q.m, q.size, nSet (frm + n) (blk d n) q.nw⟩
theorem Asc (k : Nat) (hk : 1 ≤ k) (b : Nat) {H : Heap} {s : St} (hs : StAt H s) (i a : Nat) (hi : i < 512) :
  ∃ u H', CF k Tg b [.ptr 2 1 1 3 0 0, .int .i64 i, .int .i64 a] H = some (u, H') ∧ (StAt H' (s.put i a) ∧ u = .tup []) := by
 obtain ⟨h0, h1, h2, hl⟩ := hs
 have hnl : (NL s.m).length = 512 := by rw [Cj, hl]
 refine fni (by omega) dT rfl ?_
 unfold Pd
 repeat' (first
  | refine qS ?_ | refine Aw ?_ (hr := by exact h2) | refine Eb rfl rfl (by exact h0) hnl (by omega) (by omega) (by omega) rfl rfl ?_
  | refine Dz (enc := nav) (l := s.m) (a := a) ?_ (hr := by exact h0) (hv0 := by exact hl) | refine Aor rfl rfl (by exact h1) rfl rfl ?_ | refine qQb ?_ | fail)
 refine ⟨Or.inl rfl, _, rfl, ⟨?_, ?_, h2, ?_⟩, rfl⟩
 ·show (⟨1, false, .row 1 ((s.m.set (0 + (i : Int).toNat) a).map nav)⟩ : Blk) = _
  rw [show 0 + (i : Int).toNat = i by omega]; rfl
 ·show (⟨1, false, .map (Qc (i : Nat) (nwE s.nw))⟩ : Blk) = _
  rw [Ald]; rfl
 ·show (s.m.set i a).length = 512
  rw [Ee]; exact hl
theorem Atm (k : Nat) (hk : 1000000 ≤ k) (t f : Bool) (m : List Nat) (hm : m.length = 512) (size : Nat) :
  ∃ u H', CF k jY 0 [.islc t f 1 (NL m), .int .i64 size] Heap.none = some (u, H') ∧ (StAt H' ⟨m, size, []⟩ ∧ u = .ptr 2 1 1 3 0 0) := by
 have hnl : (NL m).length = 512 := by rw [Cj, hm]
 have hc := uQ (k - 1) (by omega) t f (NL m) (by intro h; rw [h] at hnl; simp at hnl) (Me _) (fun H => aW true _ H _) (by omega)
 refine fni (by omega) Aad rfl ?_
 unfold gA
 repeat' (first | refine qS ?_ | refine mG (n := 512) hc hnl rfl rfl rfl ?_ | refine Aqx rfl rfl ?_ | refine Hn ?_ (hl := by kernel_rfl) | refine qQb ?_ | fail)
 exact ⟨Or.inr rfl, _, rfl, ⟨rfl, rfl, rfl, hm⟩, rfl⟩
def Abz (f : Bool) (l : List UInt8) (x : Img) : AV := .iptr false (x.cs false f l)
def Bh (x : Img) : St := ⟨(x.trees.headD ⟨[], [], false⟩).m, x.sup.size, []⟩
theorem Se (k : Nat) (hk : 1000200 ≤ k) (f : Bool) (l : List UInt8) (hl : l.length < 1000000) {a e : Nat} (h : sO l = .error (a, e)) :
  ∃ u H', CF k cI 0 [.islc false f 1 (BL l)] Heap.none = some (u, H') ∧ u = .tup [.nilp, .nilp, .int .i64 e] := by
 have hlk := cX (k - 1) (by omega) f l hl
 have he := Jr h
 rw [h] at hlk
 unfold Ta at hlk
 simp only at hlk
 have he0 : (e : Int) ≠ 0 := by omega
 refine fni (by omega) oJ rfl ?_
 unfold dH
 repeat' (first | refine Bf (hlk) (fun _ => ?_) (fun _ => ?_) | refine Ab (hlk) ?_ | refine qQb ?_ | refine Af (fun _ => ?_) (fun _ => ?_))
 exact ⟨Or.inr rfl, _, rfl, rfl⟩
theorem hG (k : Nat) (hk : 1000200 ≤ k) (f : Bool) (l : List UInt8) (hl : l.length < 1000000) {x : Img} (h : sO l = .ok x) :
  ∃ u H', CF k cI 0 [.islc false f 1 (BL l)] Heap.none = some (u, H') ∧ (StAt H' (Bh x) ∧ u = .tup [Abz f l x, .ptr 2 1 1 3 0 0, .int .i64 0]) := by
 have hlk := cX (k - 1) (by omega) f l hl
 obtain ⟨hd, hx⟩ := jN hl h
 have htr := hx.trees
 have hft := hx.tree
 rw [h] at hlk
 unfold Ta at hlk
 simp only at hlk
 unfold Abz Img.cs at *
 obtain ⟨sup, slot, recs, blocks, trees⟩ := x
 simp only at htr hft hlk ⊢
 obtain ⟨f1, s1, hr, _⟩ := rIvF recs
 obtain ⟨f2, s2, hb, _⟩ := Kr blocks
 rw [hr, hb] at hlk ⊢
 match trees, htr with
 | w :: ws, _ =>
  have hm : w.m.length = 512 := (hft w (Dt ..)).1.1.1
  have hbg := Atm (k - 1) (by omega) false false w.m hm sup.size
  have hea : ((w :: ws).map (WS.iv f l))[(0 : Int).toNat]? = some (.iptr false [.islc false f 1 (BL l), .int .i64 (nb l : Nat), .islc false false 1 (NL w.m), Jn false w.nodes, .bool w.bad]) := rfl
  obtain ⟨f3, s3, hb3, _⟩ := Kr w.nodes
  rw [hb3] at hea
  refine fni (by omega) oJ rfl ?_
  unfold dH
  repeat' (first
   | refine qS ?_ | refine Em ?_ | refine Cz rfl rfl (by omega) hea rfl rfl ?_ | refine Dd hbg rfl rfl rfl (fun u H3 hR => ?_)
   | refine Bf (hlk) (fun _ => ?_) (fun _ => ?_) | refine Ab (hlk) ?_ | refine qQb ?_ | refine Af (fun _ => ?_) (fun _ => ?_))
  obtain ⟨hS, rfl⟩ := hR
  exact ⟨Or.inr rfl, _, rfl, hS, rfl⟩
theorem Ahf {k : Nat} (hk : 1000000 ≤ k) {H : Heap} {T : Tmps} {s : St} (hs : StAt H s) (frm n : Nat) (hn : frm + n ≤ 512) (hT : Has T [(0, .ptr 2 1 1 3 0 0), (2, .int .i64 (frm + n : Nat)), (6, .int .i64 frm)]) :
  W (Bp (CF k) noX 3 k (.loop Qp) T H) (fun ex T' H' => ex = .exit 0 ∧ StAt H' (s.zero frm n)) := by
 refine Fa n (fun i T' H' => StAt H' (s.zero frm i) ∧ Has T' [(0, .ptr 2 1 1 3 0 0), (2, .int .i64 (frm + n : Nat)), (6, .int .i64 (frm + i : Nat))]) ⟨hs, hT⟩ (by omega) ?_
 clear hs hT
 rintro i T H2 hi ⟨hs, hT⟩
 rw [hT.eq]
 simp only [over]
 unfold Qp
 by_cases hlt : i < n
 ·have hp := Asc k (by omega) 3 hs (frm + i) 0 (by omega)
  have hlt' : ((frm + i : Nat) : Int) < ((frm + n : Nat) : Int) := by omega
  repeat' (first | refine qS ?_ | refine Dd hp rfl rfl rfl (fun u H3 hR => ?_) | refine qQb ?_ | fail)
  exact ⟨hlt, hR.1, rfl, rfl, by show AV.int _ _ = AV.int _ _; congr 1, trivial⟩
 ·have hin : i = n := by omega
  subst hin
  have hlt' : ¬ ((frm + i : Nat) : Int) < ((frm + i : Nat) : Int) := by omega
  repeat' (first | refine qQb ?_ | fail)
  exact ⟨rfl, hs⟩
theorem Afc (k : Nat) (hk : 1000001 ≤ k) {H : Heap} {s : St} (hs : StAt H s) (frm n : Nat) (hn : frm + n ≤ 512) :
  ∃ u H', CF k Sr 3 [.ptr 2 1 1 3 0 0, .int .i64 frm, .int .i64 (frm + n : Nat)] H = some (u, H') ∧ (StAt H' (s.zero frm n) ∧ u = .tup []) := by
 refine fni (by omega) bS rfl ?_
 unfold __head_Stage__Zero
 repeat' (first | refine qQb ?_ | refine Af (fun _ => ?_) (fun _ => ?_))
 refine W.mono (Ahf (k := k - 1) (by omega) hs frm n hn ⟨rfl, rfl, rfl, trivial⟩) ?_
 rintro ex T2 H2 ⟨rfl, hS⟩
 exact ⟨Or.inl rfl, _, rfl, hS, rfl⟩
theorem Ajv (k : Nat) (hk : 1000002 ≤ k) {H : Heap} {s : St} (hs : StAt H s) (size : Nat) (hn : size ≤ 512) :
  ∃ u H', CF k Pi 3 [.ptr 2 1 1 3 0 0, .int .i64 size] H = some (u, H') ∧ (StAt H' { s.zero size (512 - size) with size := size } ∧ u = .tup []) := by
 have hz := Afc (k - 1) (by omega) hs size (512 - size) (by omega)
 rw [show size + (512 - size) = 512 by omega] at hz
 refine fni (by omega) Zb rfl ?_
 unfold Mu
 repeat' (first | refine qS ?_ | refine Dd hz rfl rfl rfl (fun u H3 hR => ?_) | refine qQb ?_ | fail)
 obtain ⟨⟨h0, h1, h2, hl⟩, rfl⟩ := hR
 repeat' (first | refine qS ?_ | refine Cn ?_ (hr := by exact h2) | refine qQb ?_ | fail)
 exact ⟨Or.inl rfl, _, rfl, ⟨h0, h1, rfl, hl⟩, rfl⟩
def lyS (s : St) (tk : List Nat) : Nat → List Nat × List IoV × Nat
 | 0 => (s.m, [], 0)
 | i + 1 => match nGet i s.nw with
  | none => lyS s tk i
  | some d => ((lyS s tk i).1.set i (tk.getD (lyS s tk i).2.2 0), (lyS s tk i).2.1 ++ [wIo (tk.getD (lyS s tk i).2.2 0) d], (lyS s tk i).2.2 + 1)
theorem Rx (s : St) (tk : List Nat) : ∀ i, (lyS s tk i).1.length = s.m.length ∧ (lyS s tk i).2.1.length = (lyS s tk i).2.2
 | 0 => ⟨rfl, rfl⟩
 | i + 1 => by
  have ih := Rx s tk i
  unfold lyS
  split
  ·exact ih
  ·simp [ih.1, ih.2]
theorem Aqj (s : St) (tk : List Nat) (i : Nat) : ∀ n, (lyS s tk i).2.2 ≤ (lyS s tk (i + n)).2.2
 | 0 => Bc _
 | n + 1 => by
  have ih := Aqj s tk i n
  rw [← nG]
  show _ ≤ (match nGet (i + n) s.nw with
  | none => lyS s tk (i + n)
  | some d => ((lyS s tk (i + n)).1.set (i + n) (tk.getD (lyS s tk (i + n)).2.2 0), (lyS s tk (i + n)).2.1 ++ [wIo (tk.getD (lyS s tk (i + n)).2.2 0) d], (lyS s tk (i + n)).2.2 + 1)).2.2
  split
  ·exact ih
  ·exact Nat.le_succ_of_le ih
theorem Aro {k gm gl : Nat} {B3 : Blk} (hk : 1000000 ≤ k) {H : Heap} (h3 : H 3 = B3) {T : Tmps} {s : St} {tk : List Nat} {f12 : Bool} {v1 v2 v10 : AV} (hs : StAt H s) (hc : (lyS s tk 512).2.2 ≤ tk.length) (htl : tk.length < 100000) (h8 : H 8 = ⟨gm, false, .row 1 (NL s.m)⟩) (h4 : H 4 = ⟨gl, false, .row 3 []⟩)
  (hT : Has T [(0, .ptr 2 1 1 3 0 0), (1, v1), (2, v2), (9, .slc 4 gl 0 3 0 0 none), (10, v10), (12, .islc false f12 1 (NL tk)), (13, .slc 8 gm 512 1 0 512 none), (37, .slc 8 gm 512 1 0 512 none), (38, .int .i64 (512 : Nat)), (39, .int .i64 0)]) :
  W (Bp (CF k) noX 4 k (.loop Sm) T H) (fun ex T' H' => ex = .exit 0 ∧ StAt H' s ∧ H' 3 = B3 ∧ H' 8 = ⟨gm, false, .row 1 (NL (lyS s tk 512).1)⟩ ∧ H' 4 = ⟨gl, false, .row 3 ((lyS s tk 512).2.1.map IoV.av)⟩ ∧ Has T' [(0, .ptr 2 1 1 3 0 0), (1, v1), (2, v2), (9, .slc 4 gl (lyS s tk 512).2.2 3 0 (lyS s tk 512).2.2 none), (10, v10), (13, .slc 8 gm 512 1 0 512 none)]) := by
 refine Fa 512 (fun i T' H' => StAt H' s ∧ H' 3 = B3 ∧ H' 8 = ⟨gm, false, .row 1 (NL (lyS s tk i).1)⟩ ∧ H' 4 = ⟨gl, false, .row 3 ((lyS s tk i).2.1.map IoV.av)⟩ ∧ ∃ f, Has T' [(0, .ptr 2 1 1 3 0 0), (1, v1), (2, v2), (9, .slc 4 gl (lyS s tk i).2.2 3 0 (lyS s tk i).2.2 none), (10, v10), (12, .islc false f 1 (NL (tk.drop (lyS s tk i).2.2))), (13, .slc 8 gm 512 1 0 512 none), (37, .slc 8 gm 512 1 0 512 none), (38, .int .i64 (512 : Nat)), (39, .int .i64 (i : Nat))]) ⟨hs, h3, h8, h4, f12, hT⟩ (by omega) ?_
 clear hs h3 h8 h4 hT
 rintro i T H2 hi ⟨hs, h3, h8, h4, f, hT⟩
 rw [hT.eq]
 simp only [over]
 unfold Sm
 have hs0 := hs
 obtain ⟨h0, h1, h2, hl⟩ := hs
 by_cases hlt : i < 512
 ·have hget := Aki i s.nw
  have hml := (Rx s tk i).1
  have hil := (Rx s tk i).2
  cases hg : nGet i s.nw with
  | none =>
   rw [hg] at hget
   have hst : lyS s tk (i + 1) = lyS s tk i := by
    show (match nGet i s.nw with
     | none => lyS s tk i
     | some d => _) = _
    rw [hg]
   repeat' (first
    | refine qS ?_ | refine Aw ?_ (hr := by exact h2)
    | refine zU (u := .islc false true 0 []) (b := false) rfl rfl (by exact h1) (by rw [hget]; rfl) (by rw [hget]; rfl) rfl rfl ?_ | refine qQb ?_ | refine Bu fun _ => ?_)
   refine ⟨hlt, hs0, h3, by rw [hst]; exact h8, by rw [hst]; exact h4, f, rfl, rfl, rfl, by rw [hst]; rfl, rfl, by rw [hst]; rfl, rfl, rfl, rfl, by show AV.int _ _ = AV.int _ _; congr 1, trivial⟩
  | some d =>
   rw [hg] at hget
   have hst : lyS s tk (i + 1) = ((lyS s tk i).1.set i (tk.getD (lyS s tk i).2.2 0), (lyS s tk i).2.1 ++ [wIo (tk.getD (lyS s tk i).2.2 0) d], (lyS s tk i).2.2 + 1) := by
    show (match nGet i s.nw with
     | none => lyS s tk i
     | some d => ((lyS s tk i).1.set i (tk.getD (lyS s tk i).2.2 0), (lyS s tk i).2.1 ++ [wIo (tk.getD (lyS s tk i).2.2 0) d], (lyS s tk i).2.2 + 1)) = _
    rw [hg]
   have hle := Aqj s tk (i + 1) (512 - (i + 1))
   rw [show i + 1 + (512 - (i + 1)) = 512 by omega, hst] at hle
   simp only at hle
   generalize lyS s tk (i + 1) = q2 at *
   subst hst
   generalize lyS s tk i = q at *
   obtain ⟨qm, qi, j⟩ := q
   simp only at *
   have hj : j < tk.length := by omega
   obtain ⟨b, hb⟩ : ∃ b, b = tk.getD j 0 := ⟨_, rfl⟩
   rw [← hb]
   have hdr : tk.drop j = b :: tk.drop (j + 1) := by
    rw [Dl hj, hb]
    simp [hj]
   have hdl : (NL (tk.drop j)).length = tk.length - j := by rw [Cj, Bl]
   have he0 : (NL (tk.drop j))[(0 : Int).toNat]? = some (.int .i64 (b : Nat)) := by rw [hdr]; rfl
   have e1 : ((NL (tk.drop j)).drop 1).take (tk.length - j - 1) = NL (tk.drop (j + 1)) := by
    rw [hdr]
    show (NL (tk.drop (j + 1))).take (tk.length - j - 1) = _
    rw [Aj (by rw [Cj, Bl]; omega)]
   have hml2 : qm.length = 512 := by rw [hml, hl]
   have hNm : (NL qm).length = 512 := by rw [Cj, hml2]
   have hlm : ((qi.map IoV.av)).length = j := by rw [Ah, hil]
   have hNs : ((qm.set (0 + (i : Int).toNat) b).map nav).length = 512 := by rw [Ah, Ee, hml2]
   have hxs : ((qm.set (0 + (i : Int).toNat) b).map nav)[0 + (i : Int).toNat]? = some (.int .i64 (b : Nat)) := by
    rw [Az, List.getElem?_set_self (by omega)]; rfl
   repeat' (first
    | refine qS ?_ | refine Aw ?_ (hr := by exact h2) | refine zU (u := encB d) (b := true) rfl rfl (by exact h1) (by rw [hget]; rfl) (by rw [hget]; rfl) rfl rfl ?_
    | refine Cz rfl rfl (by decide) he0 rfl rfl ?_
    | refine Dx (n := tk.length - j) (a := 1) (b := tk.length - j) rfl (.inl rfl) hdl (Fi (n := 1) rfl) rfl (by omega) (Bc _) rfl rfl ?_
    | refine Eb rfl rfl (by exact h8) hNm (by omega) (by omega) (by omega) rfl rfl ?_ | refine Eb rfl rfl rfl hNs (by omega) (by omega) (by omega) rfl rfl ?_
    | refine Dz (enc := nav) (l := qm) (a := b) ?_ (hr := by exact h8) (hv0 := by exact hml2) (hl := by kernel_rfl)
    | refine Aw ?_ (hr := by rfl) (hv0 := by exact hNs) (he := by exact hxs) | refine Gw ?_ (hc := by kernel_rfl)
    | refine Sg rfl rfl rfl (by exact h4) hlm rfl (by omega) rfl rfl ?_ | refine qQba ?_ | refine Bu fun _ => ?_)
   refine ⟨hlt, ⟨h0, h1, h2, hl⟩, h3, ?_, ?_, f && decide (tk.length - j = tk.length - j), rfl, rfl, rfl, rfl, rfl, ?_, rfl, rfl, rfl, by show AV.int _ _ = AV.int _ _; congr 1, trivial⟩
   ·show (⟨gm, false, .row 1 ((qm.set (0 + (i : Int).toNat) b).map nav)⟩ : Blk) = _
    rw [show 0 + (i : Int).toNat = i by omega]; rfl
   ·show (⟨gl, false, .row 3 ((qi.map IoV.av) ++ [.agg [.int .i64 1, .int .i64 (b : Nat), .islc false false 1 (BL d)]])⟩ : Blk) = _
    rw [Br]; rfl
   ·show AV.islc false _ 1 (((NL (tk.drop j)).drop 1).take (tk.length - j - 1)) = _
    rw [e1]
 ·have hin : i = 512 := by omega
  subst hin
  repeat' (first | refine qQb ?_ | refine Bu fun _ => ?_)
  exact ⟨rfl, hs0, h3, h8, h4, rfl, rfl, rfl, rfl, rfl, rfl, trivial⟩
def layM (s : St) (fs : List Nat) : List Nat := (lyS s (fs.take s.nw.length) 512).1
def layP (l : List UInt8) (root : Nat) (w : WS) (s : St) (fs : List Nat) : Option (Nat × List IoV × List Nat) :=
 if fs.length < s.nw.length then none
 else if (fs.drop s.nw.length).length < Dq l root (layM s fs) w then none
 else some ((Vc l root (layM s fs) w (fs.drop s.nw.length)).i2.getD 0 0, (lyS s (fs.take s.nw.length) 512).2.1 ++ (Vc l root (layM s fs) w (fs.drop s.nw.length)).ios, (fs.drop s.nw.length).drop (Dq l root (layM s fs) w))
structure LayH (l : List UInt8) (root : Nat) (w : WS) (s : St) (fs : List Nat) : Prop where
 dev : Dev l
 old : goP l root = some w
 len : w.m.length = 512
 few : w.nodes.length < 1000000
 rt : root ≠ 0 → 2 ≤ root ∧ root < nb l
 ptrs : root ≠ 0 → ∀ p ∈ (Cw (blk l root)).1.ptr, p ≠ 0 → 2 ≤ p ∧ p < nb l
 fsl : fs.length < 100000
 nwl : s.nw.length ≤ 512
 cnt : (lyS s (fs.take s.nw.length) 512).2.2 = s.nw.length
 range : s.nw.length ≤ fs.length → ∀ a ∈ layM s fs, a = 0 ∨ 2 ≤ a ∧ a < nb l
 may : s.nw.length ≤ fs.length → MayP l w (layM s fs) (fs.drop s.nw.length)
 nods : s.nw.length ≤ fs.length → Dq l root (layM s fs) w ≤ (fs.drop s.nw.length).length → xK (layM s fs) (Ux l root (layM s fs) w) ((fs.drop s.nw.length).take (Dq l root (layM s fs) w)) (Rl l root (layM s fs) w)
theorem oS : ∀ l : List IoV, Cf (l.map IoV.av) = true
 | [] => rfl
 | x :: l => by
  show (x.av.norefs && Cf (l.map IoV.av)) = true
  rw [oS l, Zw]; rfl
def LayR (B3 : Blk) (s : St) (y : Option (Nat × List IoV × List Nat)) (u : AV) (H' : Heap) : Prop := StAt H' s ∧ H' 3 = B3 ∧ match y with
 | none => ∃ a b, u = .tup [.int .i64 0, a, b, .int .i64 9]
 | some (r, ios, rest) => ∃ g, u = .tup [.int .i64 r, .slc 4 g ios.length 3 0 ios.length none, .islc false false 1 (NL rest), .int .i64 0] ∧ H' 4 = ⟨g, false, .row 3 (ios.map IoV.av)⟩
theorem Ayp (k : Nat) (hk : 1000130 ≤ k) {H : Heap} {s : St} (hs : StAt H s) {f ff : Bool} {l : List UInt8} {root : Nat} {w : WS} {fs : List Nat} (h : LayH l root w s fs) :
  ∃ u H', CF k Tf 4 [.ptr 2 1 1 3 0 0, .islc false f 1 (BL l), .int .i64 root, .islc false ff 1 (NL fs)] H = some (u, H') ∧ LayR (H 3) s (layP l root w s fs) u H' := by
 obtain ⟨h0, h1, h2, hl⟩ := hs
 have htk := Axm (k - 1) (by omega) false ff fs (by have := h.fsl; omega) s.nw.length (by have := h.nwl; omega)
 have hnl : (NL s.m).length = 512 := by rw [Cj, hl]
 unfold Aho at htk
 refine fni (by omega) dR rfl ?_
 unfold __head_Stage__Lay layP
 by_cases hlt : fs.length < s.nw.length
 ·rw [if_pos hlt] at htk ⊢
  repeat' (first | refine qS ?_ | refine Aw ?_ (hr := by exact h2) | refine yW rfl (by exact h1) (Aks _) rfl rfl ?_ | refine Ab htk ?_ | refine qQb ?_ | refine Bu fun _ => ?_)
  exact ⟨Or.inr rfl, _, rfl, ⟨h0, h1, h2, hl⟩, rfl, _, _, rfl⟩
 ·rw [if_neg hlt] at htk ⊢
  have hle : s.nw.length ≤ fs.length := by omega
  have hml : (layM s fs).length = 512 := by unfold layM; rw [(Rx s _ 512).1, hl]
  have htr := Awq (k - 1) (by omega) f true false false false l h.dev root h.old h.len h.few (layM s fs) hml (h.range hle) h.rt h.ptrs (fs.drop s.nw.length) (by rw [Bl]; have := h.fsl; omega) (h.may hle) (h.nods hle)
  have hfr := uQ (k - 1) (by omega) true false (NL s.m) (by intro h; rw [h] at hnl; simp at hnl) (Me _) (fun H => aW true _ H _) (by omega)
  have hz1 : ∀ H : Heap, H 0 = ⟨1, false, .row 1 (NL s.m)⟩ → [AV.slc 0 1 512 1 0 512 none].map (fz false 6 H) = [.islc true false 1 (NL s.m)] := fun H h => Bk (fun z => [z]) (Gp (out := false) h hl 4)
  have htl : (fs.take s.nw.length).length = s.nw.length := by rw [Ay]; omega
  have hnw := h.nwl
  have hcnt := h.cnt
  repeat' (first
   | refine qS ?_ | refine Aw ?_ (hr := by exact h2) | refine yW rfl (by exact h1) (Aks _) rfl rfl ?_ | refine Ab htk ?_
   | refine mG (n := 512) hfr hnl rfl (by exact hz1 _ h0) rfl ?_ | refine qQb ?_ | refine Bu fun _ => ?_)
  refine W.mono (Aro (k := k - 1) (B3 := H 3) (by omega) (by exact rfl) (s := s) (tk := fs.take s.nw.length) (gm := (H 8).gen + 1) (gl := (H 4).gen + 1) ⟨h0, h1, h2, hl⟩ (by omega) (by omega) rfl rfl ⟨rfl, rfl, rfl, rfl, rfl, rfl, rfl, rfl, rfl, rfl, trivial⟩) ?_
  rintro ex T2 H2 ⟨rfl, hS, h3, h8, h4, hT2⟩
  rw [hT2.eq]
  simp only [over]
  show W _ _
  have hS0 := hS
  obtain ⟨g0, g1, g2, _⟩ := hS
  have hil := (Rx s (fs.take s.nw.length) 512).2
  have hLM : (lyS s (fs.take s.nw.length) 512).1 = layM s fs := rfl
  rw [hLM] at h8
  generalize layM s fs = m at *
  have hz2 : ∀ (gm root : Nat) (H : Heap), H 8 = ⟨gm, false, .row 1 (NL m)⟩ → [AV.islc false f 1 (BL l), .int .i64 root, .slc 8 gm 512 1 0 512 none, .islc false false 1 (NL (fs.drop s.nw.length))].map (fz false 6 H) = [.islc false f 1 (BL l), .int .i64 root, .islc true false 1 (NL m), .islc false false 1 (NL (fs.drop s.nw.length))] := fun gm root H h => Bk (fun z => [AV.islc false f 1 (BL l), .int .i64 root, z, .islc false false 1 (NL (fs.drop s.nw.length))]) (Gp (out := false) h hml 4)
  unfold Aht at htr
  by_cases hlt2 : (fs.drop s.nw.length).length < Dq l root m w
  ·rw [if_pos hlt2] at htr ⊢
   repeat' (first | refine qS ?_ | refine Ab htr ?_ rfl (by exact hz2 _ _ _ h8) | refine qQb ?_ | refine Bu fun _ => ?_)
   exact ⟨Or.inr rfl, _, rfl, ⟨g0, g1, g2, hS0.len⟩, h3, _, _, rfl⟩
  ·rw [if_neg hlt2] at htr ⊢
   have hil2 : ((lyS s (fs.take s.nw.length) 512).2.1.map IoV.av).length = (lyS s (fs.take s.nw.length) 512).2.2 := by rw [Ah, hil]
   have hb := qA m (Ux l root m w) ((fs.drop s.nw.length).take (Dq l root m w)) (Rl l root m w) ((fs.drop s.nw.length).take (Dq l root m w)).length
   have hSl : (Vc l root m w (fs.drop s.nw.length)).ios.length ≤ 100000 := by
    show (wst _ _ _ _ _).ios.length ≤ _
    rw [hb.1]
    have := h.fsl
    show 0 + _ ≤ _
    rw [Ay, Bl]; omega
   generalize Vc l root m w (fs.drop s.nw.length) = S at *
   have hSn : (S.ios.map IoV.av).length = S.ios.length := Ah _
   generalize hq : lyS s (fs.take s.nw.length) 512 = q at *
   obtain ⟨qm, qi, j⟩ := q
   simp only at *
   repeat' (first | refine qS ?_ | refine Ab htr ?_ rfl (by exact hz2 _ _ _ h8) | refine Auo rfl rfl (.inl rfl) (by exact h4) hil2 (oS _) (by omega) rfl rfl (fun _ => ?_) | refine qQb ?_ | refine Bu fun _ => ?_)
   refine ⟨Or.inr rfl, _, rfl, ⟨g0, g1, g2, hS0.len⟩, h3, ?_⟩
   refine ⟨(H 4).gen + 1, ?_, ?_⟩
   ·show AV.tup [_, .slc 4 _ (j + (S.ios.map IoV.av).length) 3 0 (j + (S.ios.map IoV.av).length) none, _, _] = _
    rw [hSn, Am, hil]; rfl
   ·show (⟨(H 4).gen + 1, false, .row 3 (qi.map IoV.av ++ S.ios.map IoV.av)⟩ : Blk) = _
    rw [Br]
def Gz (l : List UInt8) (x : Img) (s : St) : Except Nat (List IoV) :=
 if ¬ x.sup.gen < 1099511627776 then .error 8
 else match layP l x.sup.root (x.trees.headD ⟨[], [], false⟩) s (Cm (Bn l x)) with
 | none => .error 9
 | some (r, ios, _) => .ok (Eu x.sup x.slot ios r s.size x.sup.first)
structure MakeH (l : List UInt8) (x : Img) (s : St) : Prop where
 lay : LayH l x.sup.root (x.trees.headD ⟨[], [], false⟩) s (Cm (Bn l x))
 size : s.size ≤ 512
 out : ∀ r ios rest, layP l x.sup.root (x.trees.headD ⟨[], [], false⟩) s (Cm (Bn l x)) = some (r, ios, rest) → ios.length < 1000 ∧ (∀ y ∈ ios, okIo (nb l) y ∧ y.s = 1 ∧ y.t = false) ∧ (r = 0 ∨ 2 ≤ r ∧ r < nb l)
theorem qO (k : Nat) (hk : 1000140 ≤ k) {H : Heap} {s : St} (hs : StAt H s) {f : Bool} {l : List UInt8} {x : Img} (hx : x.fit l) (h : MakeH l x s) :
  ∃ u H', CF k Qn 3 [.ptr 2 1 1 3 0 0, .islc false f 1 (BL l), Abz f l x] H = some (u, H') ∧ u = Ly (Gz l x s) := by
 have hs0 := hs
 obtain ⟨h0, h1, h2, hl⟩ := hs
 have hd := h.lay.dev
 have hfree := Afz (k - 1) (by omega) f l hd x hx
 have hfs := h.lay.fsl
 obtain ⟨f1, s1, hr, hs1⟩ := rIvF x.recs
 obtain ⟨f2, s2, hb, hs2⟩ := Kr x.blocks
 have hsok := hx.sup
 have hblk := hx.blocks
 have hslot := hx.slot
 have hlay := fun H (hs : StAt H s) => Ayp (k - 1) (by omega) (H := H) hs (f := f) (ff := false) h.lay
 have hout := h.out
 have hsz := h.size
 unfold Gz Abz
 unfold Img.cs at hfree ⊢
 rw [hr, hb] at hfree ⊢
 generalize Cm (Bn l x) = fs at *
 generalize x.trees.headD ⟨[], [], false⟩ = w at *
 by_cases hg : x.sup.gen < 1099511627776
 ·rw [if_neg (fun hh => hh hg)]
  have hg' : ¬ (x.sup.gen : Int) ≥ 1099511627776 := by omega
  cases hL : layP l x.sup.root w s fs with
  | none =>
   rw [hL] at hlay
   refine fni (by omega) Mj rfl ?_
   unfold Jj
   repeat' (first | refine qS ?_ | refine Hn ?_ (hl := by kernel_rfl) | refine Ab hfree ?_ | refine Dd (hlay _ ⟨h0, h1, h2, hl⟩) rfl rfl rfl (fun u H3 hR => ?_) | (obtain ⟨hS3, hB3, a, b, rfl⟩ := hR) | refine qQb ?_ | fail)
   exact ⟨Or.inr rfl, _, rfl, rfl⟩
  | some q =>
   obtain ⟨r, ios, rest⟩ := q
   rw [hL] at hlay
   obtain ⟨o1, o2, o3⟩ := hout r ios rest hL
   have hst := sX (k - 1) (by omega) x.sup x.slot f1 s1 (x.recs.map Rec.av) ios true false 3 r s.size x.sup.first hsok hslot (.inl rfl) o1 (fun y hy => ⟨by rw [hblk]; exact (o2 y hy).1, (o2 y hy).2.1⟩) (fun hg => by
    refine ⟨⟨by show 1 ≤ x.sup.gen + 1; omega, by show x.sup.gen + 1 ≤ _; omega⟩, hsok.2.1, hsz, ?_, hsok.2.2.2.2⟩
    show r = 0 ∨ 2 ≤ r ∧ r < x.sup.blocks
    rw [hblk]; exact o3)
   rw [if_pos hg] at hst
   have hz : ∀ (g : Nat) (H : Heap) (a b c d : AV), H 4 = ⟨g, false, .row 3 (ios.map IoV.av)⟩ → fz false 6 H a = a → fz false 6 H b = b → fz false 6 H c = c → fz false 6 H d = d → [a, .slc 4 g ios.length 3 0 ios.length none, b, c, d].map (fz false 6 H) = [a, .islc true false 3 (ios.map IoV.av), b, c, d] := by
    intro g H a b c d h ha hb hc hd
    have := Abd (out := false) (cap := none) h rfl (fun y hy => (o2 y hy).2.2) 3
    show [fz false 6 H a, fz false (3 + 3) H _, fz false 6 H b, fz false 6 H c, fz false 6 H d] = _
    rw [ha, hb, hc, hd, this]; rfl
   refine fni (by omega) Mj rfl ?_
   unfold Jj
   repeat' (first | refine qS ?_ | refine Hn ?_ (hl := by kernel_rfl) | refine Ab hfree ?_ | refine Dd (hlay _ ⟨h0, h1, h2, hl⟩) rfl rfl rfl (fun u H3 hR => ?_) | refine qQb ?_ | fail)
   obtain ⟨⟨g0, g1, g2, _⟩, hB3, g, rfl, g4⟩ := hR
   repeat' (first | refine qS ?_ | refine Aw ?_ (hr := by exact g2) | refine Aw ?_ (hr := by exact hB3) | refine Ab hst ?_ rfl (by exact hz _ _ _ _ _ _ g4 rfl rfl rfl rfl) | refine qQb ?_ | fail)
   exact ⟨Or.inr rfl, _, rfl, rfl⟩
 ·rw [if_pos hg]
  have hg' : (x.sup.gen : Int) ≥ 1099511627776 := by omega
  refine fni (by omega) Mj rfl ?_
  unfold Jj
  repeat' (first | refine qS ?_ | refine Hn ?_ (hl := by kernel_rfl) | refine qQb ?_ | fail)
  exact ⟨Or.inr rfl, _, rfl, rfl⟩
end Go.Proofs.YtkpndfkpdnknkaaGreat
