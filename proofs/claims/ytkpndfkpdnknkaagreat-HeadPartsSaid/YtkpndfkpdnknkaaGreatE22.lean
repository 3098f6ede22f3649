import Derived.Test.YtkpndfkpdnknkaaGreatE18
set_option linter.unusedSimpArgs false
set_option linter.unusedVariables false
set_option maxRecDepth 10000
set_option maxHeartbeats 16000000
namespace Go.Proofs.YtkpndfkpdnknkaaGreat
open Go.AI
theorem Azt (b : ByteArray) : abin .eql (.str b) (.str b) = some (.bool true) := by
 show some (AV.bool (b.toList == b.toList)) = _
 rw [beq_self_eq_true]
attribute [local irreducible] aops Bp Cs Df aop W WO
theorem Azl (k : Nat) (hk : 1 ≤ k) (r : List UInt8) : FnV (CF k) Ayu [El r, El r] (.bool true) := by
 unfold El
 refine fnk (by omega) Azj rfl ?_
 unfold Ayx
 repeat' (first | refine qS ?_ | refine Awh (.bool true) (by exact Azt _) rfl rfl ?_ | refine qQb ?_ | fail)
 exact ⟨Or.inr rfl, _, rfl, rfl⟩
theorem Azs {k : Nat} {H : Heap} {T : Tmps} {a : List (List UInt8)} (ha : a.length < 1000000) (hk : 1000000 ≤ k)
  (hT : Has T [(1, .islc false false 1 (a.map El)), (2, .fn Ayu []), (15, .islc false false 1 (a.map El)), (16, .int .i64 a.length), (17, .int .i64 0)]) :
  W (Bp (CF k) noX 0 k (.loop fS) T H) (fun ex T' H' => ex = .exit 0) := by
 refine Fa a.length (fun i T' H' => Has T' [(1, .islc false false 1 (a.map El)), (2, .fn Ayu []), (15, .islc false false 1 (a.map El)), (16, .int .i64 a.length), (17, .int .i64 (i : Nat))]) hT (by omega) ?_
 rintro i T H2 hi hT
 rw [hT.eq]
 simp only [over]
 unfold fS
 by_cases hlt : i < a.length
 ·obtain ⟨r, hr⟩ : ∃ r, r = a[i] := ⟨_, rfl⟩
  have he : (a.map El)[(i : Int).toNat]? = some (.islc false false 1 (BL r)) := by
   rw [Ax, Az, Aa hlt, ← hr]; rfl
  have hb := Azl k (by omega) r
  unfold El at hb
  have hlt' : (i : Int) < a.length := by omega
  repeat' (first | refine qS ?_ | refine Cz rfl rfl (by omega) he rfl rfl ?_ | refine dD hb ?_ | refine qQba ?_ | fail)
  exact ⟨hlt, rfl, rfl, rfl, rfl, by show AV.int _ _ = AV.int _ _; congr 1, trivial⟩
 ·have hin : ¬ (i : Int) < a.length := by omega
  repeat' (first | refine qQba ?_ | fail)
  exact rfl
theorem Azb (k : Nat) (hk : 1000010 ≤ k) (a : List (List UInt8)) (ha : a.length < 1000000) : FnV (CF k) Aza [.islc false false 1 (a.map El), .islc false false 1 (a.map El)] (.bool true) := by
 have hml : (a.map El).length = a.length := Ah _
 have hE : FnV (CF (k - 1)) kO [.islc false false 1 (a.map El), .islc false false 1 (a.map El), .fn Ayu []] (.bool true) := by
  refine fnk (by omega) pP rfl ?_
  unfold slices_EqualFunc_____byte_____byte___byte___byte_
  repeat' (first | refine qS ?_ | refine Bi (n := a.length) rfl hml rfl rfl ?_ | refine qQb ?_ | fail)
  refine W.mono (Azs (k := k - 1 - 1) (a := a) ha (by omega) ⟨rfl, rfl, rfl, rfl, rfl, trivial⟩) ?_
  rintro ex T2 H2 rfl
  show W _ _
  repeat' (first | refine qQb ?_ | refine Af (fun _ => ?_) (fun _ => ?_))
  exact ⟨Or.inr rfl, _, rfl, rfl⟩
 refine fnk (by omega) Azm rfl ?_
 unfold Ayy
 repeat' (first | refine qS ?_ | refine Ab hE ?_ | refine qQb ?_ | fail)
 exact ⟨Or.inr rfl, _, rfl, rfl⟩
theorem Azq (k : Nat) (hk : 1000020 ≤ k) (x : SnapV) (hx : x.sectors.length < 1000000) : FnV (CF k) Ayw [x.av, x.av] (.bool true) := by
 have hr := Azb (k - 1) (by omega) x.sectors hx
 obtain ⟨a1, a2, a3, a4, a5⟩ := x
 unfold SnapV.av Tb
 simp only at hr ⊢
 refine fnk (by omega) Azp rfl ?_
 unfold Azf
 repeat' (first | refine qS ?_ | refine qN ?_ | refine Ab hr ?_ | refine qQb ?_ | fail)
 exact ⟨Or.inr rfl, _, rfl, rfl⟩
theorem Azh {k : Nat} {H : Heap} {T : Tmps} {f : Bool} {s : Nat} {a : List SnapV} (ha : a.length < 1000000) (hs : s = 5 ∨ a = []) (hw : ∀ x ∈ a, x.sectors.length < 1000000) (hk : 1000030 ≤ k)
  (hT : Has T [(1, .islc false f s (a.map SnapV.av)), (2, .fn Ayw []), (15, .islc false f s (a.map SnapV.av)), (16, .int .i64 a.length), (17, .int .i64 0)]) :
  W (Bp (CF k) noX 0 k (.loop eO) T H) (fun ex T' H' => ex = .exit 0) := by
 refine Fa a.length (fun i T' H' => Has T' [(1, .islc false f s (a.map SnapV.av)), (2, .fn Ayw []), (15, .islc false f s (a.map SnapV.av)), (16, .int .i64 a.length), (17, .int .i64 (i : Nat))]) hT (by omega) ?_
 rintro i T H2 hi hT
 rw [hT.eq]
 simp only [over]
 unfold eO
 by_cases hlt : i < a.length
 ·obtain rfl : s = 5 := hs.resolve_right (fun h => by rw [h] at hlt; simp at hlt)
  obtain ⟨x, hx⟩ : ∃ x, x = a[i] := ⟨_, rfl⟩
  have he : (a.map SnapV.av)[(i : Int).toNat]? = some (.agg [.int .i64 x.id, .int .i64 x.parent, .islc false false 1 (x.sectors.map El), .int .i64 x.frames, .int .i64 x.digest]) := by
   rw [Ax, Az, Aa hlt, ← hx]; rfl
  have hb := Azq k (by omega) x (hw x (by rw [hx]; exact Bx hlt))
  rw [show SnapV.av x = .agg [.int .i64 x.id, .int .i64 x.parent, .islc false false 1 (x.sectors.map El), .int .i64 x.frames, .int .i64 x.digest] from rfl] at hb
  have hlt' : (i : Int) < a.length := by omega
  repeat' (first | refine qS ?_ | refine Cz rfl rfl (by omega) he rfl rfl ?_ | refine Hn ?_ (hl := by kernel_rfl) | refine dD hb ?_ | refine qQba ?_ | fail)
  exact ⟨hlt, rfl, rfl, rfl, rfl, by show AV.int _ _ = AV.int _ _; congr 1, trivial⟩
 ·have hin : ¬ (i : Int) < a.length := by omega
  repeat' (first | refine qQba ?_ | fail)
  exact rfl
theorem Azc (k : Nat) (hk : 1000040 ≤ k) (f : Bool) (s : Nat) (a : List SnapV) (ha : a.length < 1000000) (hs : s = 5 ∨ a = []) (hw : ∀ x ∈ a, x.sectors.length < 1000000) : FnV (CF k) eS [.islc false f s (a.map SnapV.av), .islc false f s (a.map SnapV.av), .fn Ayw []] (.bool true) := by
 have hml : (a.map SnapV.av).length = a.length := Ah _
 refine fnk (by omega) pL rfl ?_
 unfold slices_EqualFunc___api_Snap___api_Snap_api_Snap_api_Snap_
 repeat' (first | refine qS ?_ | refine Bi (n := a.length) rfl hml rfl rfl ?_ | refine qQb ?_ | fail)
 refine W.mono (Azh (k := k - 1) (a := a) (f := f) (s := s) ha hs hw (by omega) ⟨rfl, rfl, rfl, rfl, rfl, trivial⟩) ?_
 rintro ex T2 H2 rfl
 show W _ _
 repeat' (first | refine qQb ?_ | refine Af (fun _ => ?_) (fun _ => ?_))
 exact ⟨Or.inr rfl, _, rfl, rfl⟩
theorem Azo (k : Nat) (hk : 1000060 ≤ k) (v : ViewV) (hv : v.ok) : FnV (CF k) Azg [v.av, v.av] (.bool true) := by
 obtain ⟨⟨p1, p2⟩, ⟨p3, p4⟩, p5, p6⟩ := hv
 obtain ⟨a1, a2, a3⟩ := v
 simp only at p1 p2 p3 p4 p5 p6
 obtain ⟨f2, s2, e2, h2⟩ := Sp a2
 obtain ⟨f3, s3, e3, h3⟩ := Sp a3
 have q1 := Azb (k - 1) (by omega) a1 p1
 have q2 := Azc (k - 1) (by omega) f2 s2 a2 p3 h2 fun x hx => (p4 x hx).1
 have q3 := Azc (k - 1) (by omega) f3 s3 a3 p5 h3 fun x hx => (p6 x hx).1
 unfold ViewV.av ViewV.cs Tb
 simp only
 rw [e2, e3]
 refine fnk (by omega) Azn rfl ?_
 unfold Azd
 repeat' (first | refine qS ?_ | refine qN ?_ | refine Ab q1 ?_ | refine Ab q2 ?_ | refine Ab q3 ?_ | refine qQb ?_ | fail)
 exact ⟨Or.inr rfl, _, rfl, rfl⟩
theorem Azk {l : List UInt8} (hl : l.length < 1000000) {x : Img} (hq : sO l = .ok x) {a n : Nat} {d : List UInt8} (hd : d.length = 64 * n) (hn : 1 ≤ n) (ha : a + n ≤ x.sup.size) : (∃ ios, Kc l a d = .ok ios) ∨ Kc l a d = .error 9 ∨ (Kc l a d = .error 8 ∧ ¬ x.sup.gen < 1099511627776) := by
 have hc : Ku (a : Int) d x = 0 := by
  unfold Ku mayE Sy
  rw [if_neg (by omega), show d.length / 64 = n by omega, if_neg (by omega), if_neg (fun hh => hh (by omega))]
 have hd' : Kc l a d = Gz l x (Ff (a : Int) d x) := by
  show hdoP l _ _ = _
  unfold hdoP
  rw [hq]
  simp only
  rw [if_neg (fun hh => hh hc)]
 rw [hd']
 unfold Gz
 split
 ·rename_i hg; exact .inr (.inr ⟨rfl, hg⟩)
 ·split
  ·exact .inr (.inl rfl)
  ·exact .inl ⟨_, rfl⟩
theorem Azu {l : List UInt8} {x : Img} (hq : sO l = .ok x) {frm : Int} {d : List UInt8} {ios : List IoV} (h : Kc l frm d = .ok ios) : x.sup.gen < 1099511627776 := by
 have h : hdoP l _ _ = _ := h
 unfold hdoP at h
 rw [hq] at h
 simp only at h
 split at h
 ·cases h
 ·unfold Gz at h
  split at h
  ·cases h
  ·rename_i hg; exact Ed.1 hg
theorem Azr {V : List (List UInt8)} {a n q : Nat} {d : List UInt8} (hd : d.length = 64 * n) (hq : q ≤ n) : Sj (Sj V V.length (runF a q (blk (d.take (64 * q))))) V.length (runF (a + q) (n - q) (blk (d.drop (64 * q)))) = Sj V V.length (runF a n (blk d)) := by
 have h1 : ∀ j, j < q → blk (d.take (64 * q)) j = blk d j := fun j hj => by
  unfold blk
  rw [List.drop_take, List.take_take, Kx (by omega)]
 have h2 : ∀ j, blk (d.drop (64 * q)) j = blk d (q + j) := fun j => by
  unfold blk
  rw [Nn, show 64 * q + 64 * j = 64 * (q + j) by omega]
 refine List.ext_getElem? fun i => ?_
 by_cases hi : i < V.length
 ·rw [cY hi, cY hi]
  have hg : (Sj V V.length (runF a q (blk (d.take (64 * q))))).getD i Iz = (runF a q (blk (d.take (64 * q))) i).getD (V.getD i Iz) := by
   rw [Ae, cY hi]; rfl
  rw [hg]
  unfold runF
  by_cases c2 : a + q ≤ i ∧ i < a + q + (n - q)
  ·have c3 : a ≤ i ∧ i < a + n := by omega
   rw [if_pos c2, if_pos c3, h2, show q + (i - (a + q)) = i - a by omega]; rfl
  ·rw [if_neg c2]
   by_cases c1 : a ≤ i ∧ i < a + q
   ·have c3 : a ≤ i ∧ i < a + n := by omega
    rw [if_pos c1, if_pos c3, h1 _ (by omega)]; rfl
   ·have c3 : ¬ (a ≤ i ∧ i < a + n) := by omega
    rw [if_neg c1, if_neg c3]; rfl
 ·rw [Dp (by rw [Ir]; omega), Dp (by rw [Ir]; omega)]
theorem Azi (l : List UInt8) (hm : l.length ≤ maxLen) (frm at0 : Int) (d : List UInt8) (hdm : d.length ≤ maxLen) : ∃ H, CF 1000700 Ayv 0 [.islc false false 1 (BL l), .int .i64 frm, .int .i64 at0, .islc false false 1 (BL d)] Heap.none = some (.bool true, H) := by
 suffices h : FnV (CF 1000700) Ayv [.islc false false 1 (BL l), .int .i64 frm, .int .i64 at0, .islc false false 1 (BL d)] (.bool true) by
  obtain ⟨u, H, h1, h2⟩ := h
  refine ⟨H, ?_⟩
  rw [h1, dO h2]
 have hH := jX (1000700 - 1) (by omega) false false l
 have hW := Ua (1000700 - 1) (by omega)
 have hdl : (BL d).length = d.length := BL_length d
 by_cases hl1 : l.length > 19200
 ·rw [An hl1] at hH
  refine fnk (by omega) hX rfl ?_
  unfold fO
  repeat' (first | refine qS ?_ | refine qN ?_ | refine Ab hH ?_ | refine qQ ?_ | fail)
  exact ⟨Or.inr rfl, _, rfl, rfl⟩
 rw [Ba hl1] at hH
 have hl : l.length < 1000000 := by omega
 by_cases hd1 : d.length > 768
 ·have hd1' : (d.length : Int) > 768 := by omega
  refine fnk (by omega) hX rfl ?_
  unfold fO
  repeat' (first | refine qS ?_ | refine qN ?_ | refine Ab hH ?_ | refine Bi (n := d.length) rfl hdl rfl rfl ?_ | refine qQ ?_ | fail)
  exact ⟨Or.inr rfl, _, rfl, rfl⟩
 have hd1' : ¬ (d.length : Int) > 768 := by omega
 by_cases hd2 : d.length < 128
 ·have hd2' : (d.length : Int) < 128 := by omega
  refine fnk (by omega) hX rfl ?_
  unfold fO
  repeat' (first | refine qS ?_ | refine qN ?_ | refine Ab hH ?_ | refine Bi (n := d.length) rfl hdl rfl rfl ?_ | refine qQ ?_ | fail)
  exact ⟨Or.inr rfl, _, rfl, rfl⟩
 have hd2' : ¬ (d.length : Int) < 128 := by omega
 by_cases hd3 : d.length % 64 ≠ 0
 ·have hd3' : (d.length : Int) % 64 ≠ 0 := by omega
  refine fnk (by omega) hX rfl ?_
  unfold fO
  repeat' (first | refine qS ?_ | refine qN ?_ | refine Ab hH ?_ | refine Bi (n := d.length) rfl hdl rfl rfl ?_ | refine qQ ?_ | fail)
  exact ⟨Or.inr rfl, _, rfl, rfl⟩
 have hd3' : ¬ (d.length : Int) % 64 ≠ 0 := by omega
 obtain ⟨n, hn⟩ : ∃ n : Nat, (d.length : Int) / 64 = n := ⟨d.length / 64, by omega⟩
 have hdn : d.length = 64 * n := by omega
 have hn2 : 2 ≤ n := by omega
 have hmod := Int.emod_lt_of_pos (at0 % 18446744073709551616) (show (0 : Int) < (n : Int) - 1 by omega)
 have hmod0 := Int.emod_nonneg (at0 % 18446744073709551616) (show (n : Int) - 1 ≠ 0 by omega)
 obtain ⟨q, hq⟩ : ∃ q : Nat, 1 + at0 % 18446744073709551616 % ((n : Int) - 1) = q := ⟨(1 + at0 % 18446744073709551616 % ((n : Int) - 1)).toNat, by omega⟩
 have hq1 : 1 ≤ q ∧ q < n := by omega
 have pO := Xp (1000700 - 1) (by omega) false l hl frm false false 1 d (.inl rfl) (by omega)
 cases h : Kc l frm d with
 | error e =>
  rw [h] at pO
  have he : e ≠ 0 := qP h
  have he' : (e : Int) ≠ 0 := by omega
  unfold Ly at pO
  simp only at pO
  refine fnk (by omega) hX rfl ?_
  unfold fO
  repeat' (first
   | refine qS ?_ | refine qN ?_ | refine Ab hH ?_ | refine Bi (n := d.length) rfl hdl rfl rfl ?_ | refine Ab pO ?_ | refine Ab hW ?_
   | refine Bi (n := 0) rfl rfl rfl rfl ?_ | (rw [hn]) | (rw [hq]) | refine qQ ?_ | fail)
  exact ⟨Or.inr rfl, _, rfl, rfl⟩
 | ok ia =>
 rw [h] at pO
 obtain ⟨hoka, _, x, xa, a, n', hOa, rfl, hd', h1, h2, hva⟩ := fG hl h
 obtain rfl : n' = n := by omega
 unfold Ly at pO
 simp only at pO
 have hqx := (Iy hl).2 ⟨hOa.dev, hOa.img⟩
 have hsz := Pr hl hqx
 have hgen := Azu hqx h
 have hs5 : x.sup.size ≤ 512 := by
  obtain ⟨_, _, _, h5, _⟩ := Ju hl hqx
  exact h5
 have hda := uP hOa.dev hOa.len
 have pA := Rv (1000700 - 1) (by omega) false false l hl false false 3 ia (.inl rfl) hoka.1 (fun y hy => (hoka.2 y hy).1)
 unfold Ny at pA
 rw [if_neg (fun h => h hOa.right)] at pA
 have hd1l : (d.take (64 * q)).length = 64 * q := by rw [Ay]; omega
 have hd2l : (d.drop (64 * q)).length = 64 * (n' - q) := by rw [Bl]; omega
 have pO2 := Xp (1000700 - 1) (by omega) false l hl a false (false && decide (64 * q = d.length)) 1 (d.take (64 * q)) (.inl rfl) (by omega)
 have e1 : (q : Int) * 64 = ((64 * q : Nat) : Int) := by omega
 have e2 : (a : Int) + (q : Int) = ((a + q : Nat) : Int) := by omega
 have hfz1 : ∀ (y z : AV) (H : Heap), fz false 6 H y = y → fz false 6 H z = z → [y, z, AV.islc false (false && decide (64 * q = d.length)) 1 (((BL d).drop 0).take (64 * q - 0))].map (fz false 6 H) = [y, z, .islc false (false && decide (64 * q = d.length)) 1 (BL (d.take (64 * q)))] := by
  intro y z H hy hz
  have e : ((BL d).drop 0).take (64 * q - 0) = BL (d.take (64 * q)) := by
   unfold BL; rw [Cd, wE, Gd]
  rw [e]
  show [fz false 6 H y, fz false 6 H z, fz false 6 H _] = _
  rw [hy, hz]; rfl
 have hfz2 : ∀ (y z : AV) (H : Heap), fz false 6 H y = y → fz false 6 H z = z → [y, z, AV.islc false (false && decide (d.length = d.length)) 1 (((BL d).drop (64 * q)).take (d.length - 64 * q))].map (fz false 6 H) = [y, z, .islc false (false && decide (d.length = d.length)) 1 (BL (d.drop (64 * q)))] := by
  intro y z H hy hz
  have e : ((BL d).drop (64 * q)).take (d.length - 64 * q) = BL (d.drop (64 * q)) := by
   unfold BL; rw [Aj (by rw [Bl, Ah]; omega), Gt]
  rw [e]
  show [fz false 6 H y, fz false 6 H z, fz false 6 H _] = _
  rw [hy, hz]; rfl
 rcases Azk hl hqx hd1l hq1.1 (a := a) (by omega) with ⟨ib, hib⟩ | h9 | ⟨_, hg⟩
 rotate_left 1
 ·rw [h9] at pO2
  unfold Ly at pO2
  simp only at pO2
  refine fnk (by omega) hX rfl ?_
  unfold fO
  repeat' (first
   | refine qS ?_ | refine qN ?_ | refine Ab hH ?_ | refine Bi (n := d.length) rfl hdl rfl rfl ?_ | refine Ab pO ?_ | refine Ab pA ?_
   | refine Dx (n := d.length) (a := 0) (b := 64 * q) rfl (.inl rfl) hdl rfl (Fi rfl) (by omega) (by omega) rfl rfl ?_ | refine Ab pO2 ?_ rfl (by exact hfz1 _ _ _ rfl rfl)
   | refine Ab hW ?_ | (rw [hn]) | (rw [hq]) | (rw [e1]) | refine qQ ?_ | fail)
  exact ⟨Or.inr rfl, _, rfl, rfl⟩
 ·exact absurd hgen hg
 rw [hib] at pO2
 obtain ⟨hokb, _, xb0, xb, a2, n2, hOb, ha2, hdb, _, _, hvb⟩ := fG hl hib
 obtain rfl : xb0 = x := by
  have := (Iy hl).2 ⟨hOb.dev, hOb.img⟩
  rw [hqx] at this
  exact (Except.ok.inj this).symm
 obtain rfl : a2 = a := by omega
 obtain rfl : n2 = q := by omega
 unfold Ly at pO2
 simp only at pO2
 have pB := Rv (1000700 - 1) (by omega) false false l hl false false 3 ib (.inl rfl) hokb.1 (fun y hy => (hokb.2 y hy).1)
 unfold Ny at pB
 rw [if_neg (fun h => h hOb.right)] at pB
 have hlb : (Bs l ib).length < 1000000 := by rw [hOb.len]; exact hl
 have hqb := (Iy hlb).2 ⟨uP hOb.dev hOb.len, hOb.img'⟩
 have hszb := Pr hlb hqb
 have hlenb : (Ci (Bs l ib) xb).head.length = (Ci l xb0).head.length := by rw [hvb]; exact Ir _ _ _
 have pO3 := Xp (1000700 - 1) (by omega) false (Bs l ib) hlb ((a2 + n2 : Nat) : Int) false (false && decide (d.length = d.length)) 1 (d.drop (64 * n2)) (.inl rfl) (by omega)
 rcases Azk hlb hqb hd2l (by omega) (a := a2 + n2) (by omega) with ⟨ic, hic⟩ | h9 | ⟨h9, _⟩
 rotate_left 1
 ·rw [h9] at pO3
  unfold Ly at pO3
  simp only at pO3
  generalize Bs l ib = lb at *
  generalize Bs l ia = la at *
  refine fnk (by omega) hX rfl ?_
  unfold fO
  repeat' (first
   | refine qS ?_ | refine qN ?_ | refine Ab hH ?_ | refine Bi (n := d.length) rfl hdl rfl rfl ?_ | refine Ab pO ?_ | refine Ab pA ?_
   | refine Dx (n := d.length) (a := 0) (b := 64 * n2) rfl (.inl rfl) hdl rfl (Fi rfl) (by omega) (by omega) rfl rfl ?_ | refine Ab pO2 ?_ rfl (by exact hfz1 _ _ _ rfl rfl)
   | refine Ab pB ?_ | refine Dx (n := d.length) (a := 64 * n2) (b := d.length) rfl (.inl rfl) hdl (Fi rfl) rfl (by omega) (by omega) rfl rfl ?_
   | refine Ab pO3 ?_ rfl (by exact hfz2 _ _ _ rfl rfl) | refine Ab hW ?_ | (rw [hn]) | (rw [hq]) | (rw [e1]) | (rw [e2]) | refine qQ ?_ | fail)
  exact ⟨Or.inr rfl, _, rfl, rfl⟩
 ·rw [h9] at pO3
  unfold Ly at pO3
  simp only at pO3
  generalize Bs l ib = lb at *
  generalize Bs l ia = la at *
  refine fnk (by omega) hX rfl ?_
  unfold fO
  repeat' (first
   | refine qS ?_ | refine qN ?_ | refine Ab hH ?_ | refine Bi (n := d.length) rfl hdl rfl rfl ?_ | refine Ab pO ?_ | refine Ab pA ?_
   | refine Dx (n := d.length) (a := 0) (b := 64 * n2) rfl (.inl rfl) hdl rfl (Fi rfl) (by omega) (by omega) rfl rfl ?_ | refine Ab pO2 ?_ rfl (by exact hfz1 _ _ _ rfl rfl)
   | refine Ab pB ?_ | refine Dx (n := d.length) (a := 64 * n2) (b := d.length) rfl (.inl rfl) hdl (Fi rfl) rfl (by omega) (by omega) rfl rfl ?_
   | refine Ab pO3 ?_ rfl (by exact hfz2 _ _ _ rfl rfl) | refine Ab hW ?_ | (rw [hn]) | (rw [hq]) | (rw [e1]) | (rw [e2]) | refine qQ ?_ | fail)
  exact ⟨Or.inr rfl, _, rfl, rfl⟩
 rw [hic] at pO3
 obtain ⟨hokc, _, xc0, xc, a3, n3, hOc, ha3, hdc, _, _, hvc⟩ := fG hlb hic
 obtain rfl : xc0 = xb := by
  have := (Iy hlb).2 ⟨hOc.dev, hOc.img⟩
  rw [hqb] at this
  exact (Except.ok.inj this).symm
 obtain rfl : a3 = a2 + n2 := by omega
 obtain rfl : n3 = n' - n2 := by omega
 unfold Ly at pO3
 simp only at pO3
 have pC := Rv (1000700 - 1) (by omega) false false (Bs l ib) hlb false false 3 ic (.inl rfl) hokc.1 (fun y hy => (hokc.2 y hy).1)
 unfold Ny at pC
 rw [if_neg (fun h => h hOc.right)] at pC
 have hla : (Bs l ia).length < 1000000 := by rw [hOa.len]; exact hl
 have hlc : (Bs (Bs l ib) ic).length < 1000000 := by rw [hOc.len]; exact hlb
 have hqa := (Iy hla).2 ⟨hda, hOa.img'⟩
 have hqc := (Iy hlc).2 ⟨uP hOc.dev hOc.len, hOc.img'⟩
 have hvo := kE hda (Sa hda hOa.img')
 have hsame : Ci (Bs (Bs l ib) ic) xc = Ci (Bs l ia) xa := by
  rw [hvc, hva, hlenb, hvb]
  simp only
  rw [Azr hdn (by omega)]
 have pV := dN (1000700 - 1) (by omega) false (Bs l ia) hla
 have pV2 := dN (1000700 - 1) (by omega) false (Bs (Bs l ib) ic) hlc
 rw [hqa] at pV
 rw [hqc] at pV2
 unfold Aev at pV pV2
 simp only at pV pV2
 rw [hsame] at pV2
 generalize Bs (Bs l ib) ic = lc at *
 generalize Bs l ib = lb at *
 generalize Bs l ia = la at *
 clear hva hvb hvc hsame
 generalize Ci la xa = v at *
 have kV := Awa (1000700 - 1) (by omega) v v hvo hvo
 have kS := Azo (1000700 - 1) (by omega) v hvo
 rw [An rfl] at kV
 obtain ⟨f2, s2, g2, _⟩ := Sp v.snaps
 obtain ⟨f3, s3, g3, _⟩ := Sp v.opens
 have hvv : v.av = .agg [.islc false false 1 (v.head.map El), .islc false f2 s2 (v.snaps.map SnapV.av), .islc false f3 s3 (v.opens.map SnapV.av)] := by unfold ViewV.av ViewV.cs Tb; rw [g2, g3]
 have hvv' : AV.agg v.cs = _ := hvv
 rw [hvv'] at pV pV2
 rw [hvv] at kV kS
 refine fnk (by omega) hX rfl ?_
 unfold fO
 repeat' (first
  | refine qS ?_ | refine qN ?_ | refine Ab hH ?_ | refine Bi (n := d.length) rfl hdl rfl rfl ?_ | refine Ab pO ?_ | refine Ab pA ?_
  | refine Dx (n := d.length) (a := 0) (b := 64 * n2) rfl (.inl rfl) hdl rfl (Fi rfl) (by omega) (by omega) rfl rfl ?_ | refine Ab pO2 ?_ rfl (by exact hfz1 _ _ _ rfl rfl)
  | refine Ab pB ?_ | refine Dx (n := d.length) (a := 64 * n2) (b := d.length) rfl (.inl rfl) hdl (Fi rfl) rfl (by omega) (by omega) rfl rfl ?_
  | refine Ab pO3 ?_ rfl (by exact hfz2 _ _ _ rfl rfl) | refine Ab pC ?_ | refine Ab pV ?_ | refine Ab pV2 ?_ | refine Ab kS ?_ | refine Ab kV ?_ | refine Ab hW ?_
  | refine Hn ?_ (hl := by kernel_rfl) | (rw [hn]) | (rw [hq]) | (rw [e1]) | (rw [e2]) | refine qQ ?_ | fail)
 exact ⟨Or.inr rfl, _, rfl, rfl⟩
end Go.Proofs.YtkpndfkpdnknkaaGreat

