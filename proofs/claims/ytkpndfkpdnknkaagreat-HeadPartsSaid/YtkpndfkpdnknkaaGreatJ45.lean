import Derived.Test.YtkpndfkpdnknkaaGreatMJ8
import Derived.Test.YtkpndfkpdnknkaaGreatME2
set_option linter.unusedSimpArgs false
set_option linter.unusedVariables false
set_option maxRecDepth 10000
set_option maxHeartbeats 16000000
namespace Go.Proofs.YtkpndfkpdnknkaaGreat
open Go.AI
def Yc (b : List UInt8) : AV := if b = [] then .islc false true 0 [] else .islc false false 1 (BL b)
theorem Up (b : List UInt8) : ∃ f s, Yc b = .islc false f s (BL b) ∧ (s = 1 ∨ b = []) := by
 unfold Yc
 by_cases h : b = []
 ·rw [if_pos h, h]; exact ⟨_, _, rfl, .inr rfl⟩
 ·rw [if_neg h]; exact ⟨_, _, rfl, .inl rfl⟩
def Nl (l : List UInt8) (frm count : Int) : Except Nat (List UInt8) := match sO l with
 | .error (_, e) => .error e
 | .ok x => if mayE frm count 0 x.sup.size ≠ 0 then .error (mayE frm count 0 x.sup.size) else .ok (((Ci l x).head.drop frm.toNat).take count.toNat).flatten
def Ue : Except Nat (List UInt8) → AV
 | .ok b => .tup [Yc b, .int .i64 0]
 | .error e => .tup [.islc false true 0 [], .int .i64 e]
theorem Abo : ∀ (rows : List (List UInt8)), (∀ r ∈ rows, r.length = 64) → rows.flatten.length = 64 * rows.length
 | [], _ => rfl
 | r :: rows, h => by
  rw [List.flatten_cons, Am, Abo rows (fun x hx => h x (by simp [hx])), h r (by simp), Ao]; omega
attribute [local irreducible] aops Bp Cs Df aop W WO
theorem Aue (k : Nat) (hk : 1 ≤ k) (n : Nat) (hn : 0 < n) (hm : n < 100000) (H : Heap) :
  ∃ u H', CF k Jv 1 [.islc false true 0 [], .int .i64 n] H = some (u, H') ∧ (u = .slc 2 ((H 2).gen + 1) n 1 0 0 none ∧ H' 2 = ⟨(H 2).gen + 1, false, .row 1 (BL (List.replicate n 0))⟩) := by
 have e : BL (List.replicate n 0) = List.replicate n (.int .u8 0) := by unfold BL; rw [Ib]; rfl
 have hn0 : (n : Int) - (0 - 0) = n := by omega
 rw [e]
 refine fni (by omega) Mw rfl ?_
 unfold Ih
 repeat' (first
  | refine qS ?_ | refine Aqp ?_ | refine Dx (n := 0) (a := 0) (b := 0) rfl (.inr rfl) rfl rfl (Avr rfl) (Bc _) (Bc _) rfl rfl ?_
  | refine Arh (n := n) rfl (by show AV.int .i64 ((n : Int) - (0 - 0)) = _; rw [hn0]) hn (by omega) rfl rfl rfl rfl ?_
  | refine Tz (a := 0) (b := 0) rfl rfl (Ca ..) rfl (Avr rfl) (Bc _) (Mm _) (by simp) rfl rfl ?_ | refine qQb ?_
  | refine Af (fun _ => ?_) (fun _ => ?_))
 exact ⟨Or.inr rfl, _, rfl, rfl, rfl⟩
theorem Asj (k : Nat) (hk : 1 ≤ k) (H : Heap) :
  ∃ u H', CF k Jv 1 [.islc false true 0 [], .int .i64 0] H = some (u, H') ∧ u = .islc false true 0 [] := by
 refine fni (by omega) Mw rfl ?_
 unfold Ih
 repeat' (first | refine qS ?_ | refine Aqp ?_ | refine qQb ?_ | refine Af (fun _ => ?_) (fun _ => ?_))
 exact ⟨Or.inr rfl, _, rfl, rfl⟩
theorem Abs {k : Nat} {rows : List (List UInt8)} {t f : Bool} {T : Tmps} {H : Heap} (hk : 1000000 ≤ k) (hr : ∀ r ∈ rows, r.length = 64) (hn : rows.length < 10000)
  (hT : Has T [(3, .int .i64 0), (9, .islc t f 1 (rows.map El)), (10, .int .i64 rows.length), (11, .int .i64 0)]) :
  W (Bp (CF k) noX 0 k (.loop Lk) T H) (fun ex T' H' => ex = .exit 0 ∧ H' = H ∧ T' 3 = .int .i64 ((64 * rows.length : Nat) : Int) ∧ T' 0 = T 0) := by
 refine Fa rows.length (fun i T' H' => H' = H ∧ T' 0 = T 0 ∧ Has T' [(3, .int .i64 ((64 * i : Nat) : Int)), (9, .islc t f 1 (rows.map El)), (10, .int .i64 rows.length), (11, .int .i64 (i : Nat))]) ⟨rfl, rfl, hT⟩ (by omega) ?_
 rintro i T2 H2 hi ⟨rfl, h0, hT2⟩
 rw [hT2.eq]
 simp only [over]
 unfold Lk
 by_cases hlt : i < rows.length
 ·obtain ⟨r, hre⟩ : ∃ r, r = rows[i] := ⟨_, rfl⟩
  have hrl : (BL r).length = 64 := by rw [BL_length, hre]; exact hr _ (Bx hlt)
  have he2 : (rows.map El)[(i : Int).toNat]? = some (.islc false false 1 (BL r)) := by
   rw [Ax, Az, Aa hlt, ← hre]; rfl
  repeat' (first | refine qS ?_ | refine Cz rfl rfl (by omega) he2 rfl rfl ?_ | refine Bi (n := 64) rfl hrl rfl rfl ?_ | refine qQba ?_ | refine Af (fun _ => ?_) (fun _ => ?_))
  exact ⟨hlt, rfl, h0, by show AV.int _ _ = AV.int _ _; congr 1, rfl, rfl, by show AV.int _ _ = AV.int _ _; congr 1, trivial⟩
 ·have hin : i = rows.length := by omega
  subst hin
  repeat' (first | refine qQb ?_ | refine Af (fun _ => ?_) (fun _ => ?_))
  exact ⟨rfl, rfl, rfl, h0⟩
theorem Acq {k g : Nat} {rows : List (List UInt8)} {t f : Bool} {T : Tmps} {H : Heap} (hk : 1000000 ≤ k) (hr : ∀ r ∈ rows, r.length = 64) (hn : rows.length < 10000) (h2 : H 2 = ⟨g, false, .row 1 (BL (List.replicate (64 * rows.length) 0))⟩)
  (hT : Has T [(6, .slc 2 g (64 * rows.length) 1 0 0 none), (25, .islc t f 1 (rows.map El)), (26, .int .i64 rows.length), (27, .int .i64 0)]) :
  W (Bp (CF k) noX 0 k (.loop Ll) T H) (fun ex T' H' => ex = .exit 2 ∧ H' 2 = ⟨g, false, .row 1 (BL rows.flatten)⟩ ∧ T' 6 = .slc 2 g (64 * rows.length) 1 0 (64 * rows.length) none) := by
 refine Fa rows.length (fun i T' H' => H' 2 = ⟨g, false, .row 1 (BL ((rows.take i).flatten ++ List.replicate (64 * (rows.length - i)) 0))⟩ ∧ Has T' [(6, .slc 2 g (64 * rows.length) 1 0 (64 * i) none), (25, .islc t f 1 (rows.map El)), (26, .int .i64 rows.length), (27, .int .i64 (i : Nat))]) ⟨h2, hT⟩ (by omega) ?_
 rintro i T2 H2 hi ⟨g2, hT2⟩
 rw [hT2.eq]
 simp only [over]
 unfold Ll
 by_cases hlt : i < rows.length
 ·obtain ⟨r, hre⟩ : ∃ r, r = rows[i] := ⟨_, rfl⟩
  have hr64 : r.length = 64 := by rw [hre]; exact hr _ (Bx hlt)
  have hrl : (BL r).length = 64 := by rw [BL_length]; exact hr64
  have he2 : (rows.map El)[(i : Int).toNat]? = some (.islc false false 1 (BL r)) := by
   rw [Ax, Az, Aa hlt, ← hre]; rfl
  have hfl : (rows.take i).flatten.length = 64 * i := by
   rw [Abo _ fun x hx => hr x (As hx), Ay]; congr 1; omega
  have hst : (rows.take (i + 1)).flatten = (rows.take i).flatten ++ r := by
   rw [Au hlt, ← hre, List.flatten_append]; simp
  have hEl : (BL ((rows.take i).flatten ++ List.replicate (64 * (rows.length - i)) 0)).length = 64 * rows.length := by
   rw [BL_length, Am, hfl, Ca]; omega
  have hfin : (BL ((rows.take i).flatten ++ List.replicate (64 * (rows.length - i)) 0)).take (64 * i) ++ BL r ++ (BL ((rows.take i).flatten ++ List.replicate (64 * (rows.length - i)) 0)).drop (64 * i + 64) = BL ((rows.take (i + 1)).flatten ++ List.replicate (64 * (rows.length - (i + 1))) 0) := by
   rw [hst]
   unfold BL
   rw [← Gd, ← Gt, ← Br, ← Br]
   congr 1
   rw [List.take_left' hfl, Ce, Ce]
   congr 2
   rw [Ii, Ck (by omega), Dc, hfl, List.drop_replicate]
   congr 1; omega
  generalize BL ((rows.take i).flatten ++ List.replicate (64 * (rows.length - i)) 0) = E at *
  repeat' (first
   | refine qS ?_ | refine Cz rfl rfl (by omega) he2 rfl rfl ?_ | refine Atw rfl rfl (.inl rfl) (by exact g2) hEl (Lh _) (by rw [hrl]; omega) (by omega) rfl rfl (fun _ => ?_)
   | refine qQba ?_ | refine Af (fun _ => ?_) (fun _ => ?_) | refine Bu fun _ => ?_)
  refine ⟨hlt, ?_, ?_, rfl, rfl, by show AV.int _ _ = AV.int _ _; congr 1, trivial⟩
  ·show (⟨g, false, .row 1 (E.take (64 * i) ++ BL r ++ E.drop (64 * i + (BL r).length))⟩ : Blk) = _
   rw [hrl, hfin]
  ·show AV.slc 2 g (64 * rows.length) 1 0 (64 * i + (BL r).length) none = _
   rw [hrl]; rfl
 ·have hin : i = rows.length := by omega
  subst hin
  rw [Ch, Mo, Ol, List.replicate_zero, Bz] at g2
  repeat' (first | refine qQb ?_ | refine Af (fun _ => ?_) (fun _ => ?_) | refine Bu fun _ => ?_)
  exact ⟨rfl, g2, rfl⟩
theorem Anw (k : Nat) (hk : 1000010 ≤ k) (t f : Bool) (rows : List (List UInt8)) (hr : ∀ r ∈ rows, r.length = 64) (hn : rows.length < 1000) : FnV (CF k) Lz [.islc t f 1 (rows.map El)] (Yc rows.flatten) := by
 have hml : (rows.map El).length = rows.length := Ah _
 by_cases h0 : rows = []
 ·subst h0
  refine fnk (by omega) Lx rfl ?_
  unfold slices_Concat___byte_byte_
  repeat' (first | refine qS ?_ | refine Bi (n := 0) rfl rfl rfl rfl ?_ | refine qQb ?_ | refine Af (fun _ => ?_) (fun _ => ?_) | refine Bu fun _ => ?_)
  refine Nz (w_it (by omega) ?_)
  repeat' (first | refine qS ?_ | refine Dd (Asj (k - 1) (by omega) _) rfl rfl rfl ?_ | refine qQb ?_ | refine Af (fun _ => ?_) (fun _ => ?_) | refine Bu fun _ => ?_)
  rintro u H3 rfl
  repeat' (first | refine qS ?_ | refine Bi (n := 0) rfl rfl rfl rfl ?_ | refine qQb ?_ | refine Af (fun _ => ?_) (fun _ => ?_) | refine Bu fun _ => ?_)
  refine Nz (w_it (by omega) ?_)
  repeat' (first | refine qQb ?_ | refine Af (fun _ => ?_) (fun _ => ?_) | refine Bu fun _ => ?_)
  exact ⟨Or.inr rfl, _, rfl, rfl⟩
 ·have hpos : 0 < rows.length := Gf.2 h0
  have hfl := Abo rows hr
  have hne : rows.flatten ≠ [] := fun h => by rw [h] at hfl; simp at hfl; omega
  unfold Yc
  rw [if_neg hne]
  refine fnk (by omega) Lx rfl ?_
  unfold slices_Concat___byte_byte_
  repeat' (first | refine qS ?_ | refine Bi (n := rows.length) rfl hml rfl rfl ?_ | refine qQb ?_ | refine Af (fun _ => ?_) (fun _ => ?_) | refine Bu fun _ => ?_)
  refine W.mono (Abs (k := k - 1) (rows := rows) (t := t) (f := f) (by omega) hr (by omega) ⟨rfl, rfl, rfl, rfl, trivial⟩) ?_
  rintro ex T2 H2 ⟨rfl, rfl, h3, h00⟩
  rw [Has.eq (T := T2) (ps := [(3, _), (0, _)]) ⟨h3, h00, trivial⟩]
  simp only [over]
  show W _ _
  repeat' (first | refine qS ?_ | refine Dd (Aue (k - 1) (by omega) (64 * rows.length) (by omega) (by omega) _) rfl rfl rfl ?_ | refine qQb ?_ | refine Af (fun _ => ?_) (fun _ => ?_) | refine Bu fun _ => ?_)
  rintro u H3 ⟨rfl, g3⟩
  repeat' (first | refine qS ?_ | refine Bi (n := rows.length) rfl hml rfl rfl ?_ | refine qQb ?_ | refine Af (fun _ => ?_) (fun _ => ?_) | refine Bu fun _ => ?_)
  refine W.mono (Acq (k := k - 1) (g := _) (rows := rows) (t := t) (f := f) (by omega) hr (by omega) (by exact g3) ⟨rfl, rfl, rfl, rfl, trivial⟩) ?_
  rintro ex T4 H4 ⟨rfl, g4, h6⟩
  rw [Has.eq (T := T4) (ps := [(6, _)]) ⟨h6, trivial⟩]
  simp only [over]
  show W _ _
  repeat' (first | refine qQb ?_ | refine Af (fun _ => ?_) (fun _ => ?_) | refine Bu fun _ => ?_)
  exact ⟨Or.inr rfl, _, rfl, Abr (n := 4) g4 hfl⟩
theorem vN (k : Nat) (hk : 1000090 ≤ k) (f : Bool) (l : List UInt8) (hd : Dev l) (root : Nat) {w : WS} (h : goP l root = some w) (hw : w.m.length = 512) (hm : ∀ a ∈ w.m, a < nb l) (size : Nat) (hs : size ≤ 512) :
  FnV (CF k) bK [.islc false f 1 (BL l), .int .i64 root, .int .i64 size] (.tup [.islc false false 1 ((Ji l w.m size).map El), .int .i64 0]) := by
 have pM := Avw (k - 1) (by omega) f l hd root h
 have pS := Ui (k - 1) (by omega) f false false l hd w.m hm (by omega) size (by omega)
 unfold Tb at pS
 refine fnk (by omega) tX rfl ?_
 unfold Yx
 repeat' (first | refine qS ?_ | refine qN ?_ | refine Ab pM ?_ | refine Ab pS ?_ | refine qQb ?_ | fail)
 exact ⟨Or.inr rfl, _, rfl, rfl⟩
theorem Qk (k : Nat) (hk : 1000220 ≤ k) (f : Bool) (l : List UInt8) (hl : l.length < 1000000) (frm count : Int) : FnV (CF k) bL [.islc false f 1 (BL l), .int .i64 frm, .int .i64 count] (Ue (Nl l frm count)) := by
 refine fnk (by omega) Agv rfl ?_
 unfold mC Nl
 cases h : sO l with
 | error p =>
  obtain ⟨a, e⟩ := p
  have hlk := Se (k - 1) (by omega) f l hl h
  have he := Jr h
  have he0 : (e : Int) ≠ 0 := by omega
  simp only
  repeat' (first | refine qS ?_ | refine Dd hlk rfl rfl rfl (fun u H3 hR => ?_) | (obtain rfl := hR) | refine qQb ?_ | fail)
  exact ⟨Or.inr rfl, _, rfl, rfl⟩
 | ok x =>
  have hlk := hG (k - 1) (by omega) f l hl h
  obtain ⟨hd, hx, hS0, hsz, hM⟩ := Ju hl h
  have hmay := Agi (k - 1) (by omega) frm count 0 x.sup.size (by omega)
  simp only
  by_cases hc : mayE frm count 0 x.sup.size = 0
  ·rw [if_neg (fun hh => hh hc)]
   obtain ⟨a, n, rfl, rfl, h1, h2⟩ := Kd hc hsz (by decide)
   rw [hc] at hmay
   obtain ⟨_, hI⟩ := (Iy hl).1 h
   obtain ⟨w, ws, ht, hg, _, _⟩ := Gg hI
   have hlo := Us hg
   have hnb := hd.nb
   have hmw : ∀ a ∈ w.m, a < nb l := fun a ha => by rcases hlo.2 a ha with h | h <;> omega
   have hv : (Ci l x).head = Ji l w.m x.sup.size := by unfold Ci; rw [ht]; rfl
   have pS := vN (k - 1) (by omega) f l hd x.sup.root hg hlo.1 hmw x.sup.size hsz
   have hrl : ∀ r ∈ Ji l w.m x.sup.size, r.length = 64 := fun r hr => by
    unfold Ji at hr
    obtain ⟨b, hb, rfl⟩ := Bt.1 hr
    exact vC fun _ => hd.le (hmw b (As hb))
   have hVl : (Ji l w.m x.sup.size).length = x.sup.size := Ame (by omega)
   rw [hv, Ax, Ax]
   generalize Ji l w.m x.sup.size = V at *
   have hml : (V.map El).length = x.sup.size := by rw [Ah]; exact hVl
   have pC := Anw (k - 1) (by omega) false (false && decide (a + n = x.sup.size)) ((V.drop a).take n) (fun r hr => hrl r (Cc (As hr))) (by rw [Ay, Bl]; omega)
   have e1 : (a : Int) + (n : Int) = ((a + n : Nat) : Int) := by omega
   have hfz : ∀ H : Heap, [AV.islc false (false && decide (a + n = x.sup.size)) 1 (((V.map El).drop a).take (a + n - a))].map (fz false 6 H) = [.islc false (false && decide (a + n = x.sup.size)) 1 (((V.drop a).take n).map El)] := fun H => by
    rw [← Gt, ← Gd, show a + n - a = n by omega]; rfl
   obtain ⟨uf, us, hue, _⟩ := Up ((V.drop a).take n).flatten
   unfold Ue
   simp only
   rw [hue] at pC ⊢
   repeat' (first
    | refine qS ?_ | (rw [e1]) | refine Dd hlk rfl rfl rfl (fun u H3 hR => ?_) | (obtain ⟨⟨h0, h1, h2, hl⟩, rfl⟩ := hR) | refine Aw ?_ (hr := by exact h2) | refine Ab hmay ?_
    | refine Ab pS ?_ | refine Dx (n := x.sup.size) (a := a) (b := a + n) rfl (.inl rfl) hml (Fi rfl) (Fi rfl) (by omega) (by omega) rfl rfl ?_
    | refine Ab pC ?_ rfl (by exact hfz _) | refine qQb ?_ | fail)
   exact ⟨Or.inr rfl, _, rfl, rfl⟩
  ·rw [if_pos hc]
   have hc' : (mayE frm count 0 x.sup.size : Int) ≠ 0 := by omega
   generalize mayE frm count 0 x.sup.size = e at *
   repeat' (first | refine qS ?_ | refine Dd hlk rfl rfl rfl (fun u H3 hR => ?_) | (obtain ⟨⟨h0, h1, h2, hl⟩, rfl⟩ := hR) | refine Aw ?_ (hr := by exact h2) | refine Ab hmay ?_ | refine qQb ?_ | fail)
   exact ⟨Or.inr rfl, _, rfl, rfl⟩
end Go.Proofs.YtkpndfkpdnknkaaGreat

