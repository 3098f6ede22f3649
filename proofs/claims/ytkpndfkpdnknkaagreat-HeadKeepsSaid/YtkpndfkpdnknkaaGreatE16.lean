import Derived.Test.YtkpndfkpdnknkaaGreatE15
set_option linter.unusedSimpArgs false
set_option linter.unusedVariables false
set_option maxRecDepth 10000
set_option maxHeartbeats 16000000
namespace Go.Proofs.YtkpndfkpdnknkaaGreat
open Go.AI
theorem Aha {l : List UInt8} (hl : l.length < 1000000) {m frm count source : Int} (hm : m = 0 ∨ m = 1 ∨ m = 2 ∨ m = 3) {d : List UInt8} {ios : List IoV} (h : doP l m frm count source d = .ok ios) : Sn ios ∧ ∃ (x x' : Img) (W : List (List UInt8)), Opd l ios x x' ∧ Ci (Bs l ios) x' = ⟨W, (Ci l x).snaps, (Ci l x).opens⟩ ∧
    ((m ≠ 3 ∧ W.length = (Ci l x).head.length ∧ ∃ a n : Nat, frm = a ∧ a + n ≤ (Ci l x).head.length ∧ (m = 0 → d.length = 64 * n) ∧ (m ≠ 0 → count = n) ∧ ∀ i, i < W.length → ¬ (a ≤ i ∧ i < a + n) → (Ci l x).head[i]? = W[i]?) ∨
     (m = 3 ∧ ∃ z : Nat, count = z ∧ z ≤ 512 ∧ W.length = z ∧ ∀ i, i < z → i < (Ci l x).head.length → (Ci l x).head[i]? = W[i]?)) := by
  have get : ∀ (V : List (List UInt8)) (size : Nat) (f : Nat → Option (List UInt8)) (i : Nat), i < size → i < V.length → f i = none → V[i]? = (Sj V size f)[i]? := by
    intro V size f i h1 h2 h3
    rw [cY h1, h3, Aa h2, Ae, Aa h2]; rfl
  unfold doP at h
  rcases hm with rfl | rfl | rfl | rfl
  · rw [if_pos rfl] at h
    obtain ⟨hok, _, x, x', a, n, hO, hf, hd, h1, h2, hv⟩ := fG hl h
    refine ⟨hok, x, x', _, hO, hv, .inl ⟨by decide, Ir _ _ _, a, n, hf, by omega, fun _ => hd, fun h => absurd rfl h, fun i hi hn => ?_⟩⟩
    rw [Ir] at hi
    exact get _ _ _ i hi hi (by unfold runF; rw [if_neg hn])
  · rw [if_neg (by decide), if_pos rfl] at h
    obtain ⟨hok, _, x, x', a, n, hO, hf, hd, h1, h2, hv⟩ := xT hl h
    refine ⟨hok, x, x', _, hO, hv, .inl ⟨by decide, Ir _ _ _, a, n, hf, by omega, fun h => absurd h (by decide), fun _ => hd, fun i hi hn => ?_⟩⟩
    rw [Ir] at hi
    exact get _ _ _ i hi hi (by unfold runF; rw [if_neg hn])
  · rw [if_neg (by decide), if_neg (by decide), if_pos rfl] at h
    obtain ⟨hok, _, x, x', a, n, b, hO, hf, hd, hb, h1, h2, h3, hv⟩ := vY hl h
    refine ⟨hok, x, x', _, hO, hv, .inl ⟨by decide, Ir _ _ _, a, n, hf, by omega, fun h => absurd h (by decide), fun _ => hd, fun i hi hn => ?_⟩⟩
    rw [Ir] at hi
    exact get _ _ _ i hi hi (by unfold runF; rw [if_neg hn])
  · rw [if_neg (by decide), if_neg (by decide), if_neg (by decide)] at h
    obtain ⟨hok, _, x, x', z, hO, hz, h1, h2, hv⟩ := bE hl h
    exact ⟨hok, x, x', _, hO, hv, .inr ⟨rfl, z, hz, h1, Ir _ _ _, fun i hi hn => get _ _ _ i hi hn rfl⟩⟩
attribute [local irreducible] aops Bp Cs Df aop W WO
theorem gJ {k : Nat} {A M : Int} {V X : List (List UInt8)} {c1 c2 d1 d2 : AV} {T : Tmps} {H : Heap} (hk : 1000010 ≤ k) (hV : Qw V) (hX : Qw X) (hA : 0 ≤ A ∧ A < 1000000) (hM : 0 ≤ M ∧ M < 1000000)
  (h : ∀ i : Nat, i < X.length → ((i : Int) < A ∨ A + M ≤ i) → i < V.length ∧ V[i]? = X[i]?)
  (h0 : H 0 = ⟨1, false, .row 3 [.agg [.islc false false 1 (V.map El), c1, c2]]⟩) (h1 : H 1 = ⟨1, false, .row 3 [.agg [.islc false false 1 (X.map El), d1, d2]]⟩)
  (hT : Has T [(2, .int .i64 A), (17, .ptr 0 1 1 3 0 0), (19, .ptr 1 1 1 3 0 0), (21, .int .i64 M), (22, .int .i64 0)]) :
  W (Bp (CF k) noX 0 k (.loop Uw) T H) (fun ex T' H' => ex = .exit 0) := by
 have hXl := hX.1
 refine Fa X.length (fun i T' H' => H' 0 = H 0 ∧ H' 1 = H 1 ∧ Has T' [(2, .int .i64 A), (17, .ptr 0 1 1 3 0 0), (19, .ptr 1 1 1 3 0 0), (21, .int .i64 M), (22, .int .i64 (i : Nat))]) ⟨rfl, rfl, hT⟩ (by omega) ?_
 rintro i T2 H2 hi ⟨g0, g1, hT2⟩
 have g0' := g0.trans h0
 have g1' := g1.trans h1
 rw [hT2.eq]
 simp only [over]
 unfold Uw
 have hml : (X.map El).length = X.length := Ah _
 have hvl : (V.map El).length = V.length := Ah _
 by_cases hlt : i < X.length
 ·have hi' : (i : Int) < X.length := by omega
  by_cases hin : (i : Int) < A ∨ A + M ≤ i
  ·obtain ⟨hiv, hge⟩ := h i hlt hin
   obtain ⟨r, hr⟩ : ∃ r, r = X[i] := ⟨_, rfl⟩
   have hiv' : ¬ (i : Int) ≥ V.length := by omega
   have hx2 : X[i]? = some r := by rw [Aa hlt, ← hr]
   have e1 : (X.map El)[(i : Int).toNat]? = some (.islc false false 1 (BL r)) := by rw [Ax, Az, hx2]; rfl
   have e2 : (V.map El)[(i : Int).toNat]? = some (.islc false false 1 (BL r)) := by rw [Ax, Az, hge, hx2]; rfl
   have hrl := hX.2 r (by rw [hr]; exact Bx hlt)
   have pB := Tr k (by omega) false false false false 1 1 r r hrl hrl (.inl rfl) (.inl rfl)
   rw [An rfl] at pB
   rcases Int.lt_or_le (i : Int) A with ha | ha
   ·skip
    repeat' (first
     | refine qS ?_ | refine qN ?_ | refine Aw ?_ (hr := by first | exact g0' | exact g1') | refine Bi (n := X.length) rfl hml rfl rfl ?_
     | refine Bi (n := V.length) rfl hvl rfl rfl ?_ | refine Cz rfl rfl (by omega) e1 rfl rfl ?_ | refine Cz rfl rfl (by omega) e2 rfl rfl ?_ | refine Ab pB ?_
     | refine qQba ?_ | fail)
    exact ⟨hlt, g0, g1, rfl, rfl, rfl, rfl, by show AV.int _ _ = AV.int _ _; congr 1, trivial⟩
   ·have hb : A + M ≤ i := hin.resolve_left (by omega)
    repeat' (first
     | refine qS ?_ | refine qN ?_ | refine Aw ?_ (hr := by first | exact g0' | exact g1') | refine Bi (n := X.length) rfl hml rfl rfl ?_
     | refine Bi (n := V.length) rfl hvl rfl rfl ?_ | refine Cz rfl rfl (by omega) e1 rfl rfl ?_ | refine Cz rfl rfl (by omega) e2 rfl rfl ?_ | refine Ab pB ?_
     | refine qQba ?_ | fail)
    exact ⟨hlt, g0, g1, rfl, rfl, rfl, rfl, by show AV.int _ _ = AV.int _ _; congr 1, trivial⟩
  ·have h3 : ¬ (i : Int) < A := fun h => hin (.inl h)
   have h4 : ¬ (i : Int) ≥ A + M := fun h => hin (.inr h)
   repeat' (first | refine qS ?_ | refine qN ?_ | refine Aw ?_ (hr := by first | exact g0' | exact g1') | refine Bi (n := X.length) rfl hml rfl rfl ?_ | refine qQba ?_ | fail)
   exact ⟨hlt, g0, g1, rfl, rfl, rfl, rfl, by show AV.int _ _ = AV.int _ _; congr 1, trivial⟩
 ·have hin : i = X.length := by omega
  subst hin
  repeat' (first | refine qS ?_ | refine qN ?_ | refine Aw ?_ (hr := by exact g1') | refine Bi (n := X.length) rfl hml rfl rfl ?_ | refine qQba ?_ | fail)
  exact rfl
theorem xF (l : List UInt8) (hm : l.length ≤ maxLen) (kind frm count source : Int) (d : List UInt8) (hdm : d.length ≤ maxLen) : ∃ H, CF 1000700 Pe 0 [.islc false false 1 (BL l), .int .i64 kind, .int .i64 frm, .int .i64 count, .int .i64 source, .islc false false 1 (BL d)] Heap.none = some (.bool true, H) := by
 suffices h : FnV (CF 1000700) Pe [.islc false false 1 (BL l), .int .i64 kind, .int .i64 frm, .int .i64 count, .int .i64 source, .islc false false 1 (BL d)] (.bool true) by
  obtain ⟨u, H, h1, h2⟩ := h
  refine ⟨H, ?_⟩
  rw [h1, dO h2]
 have hH := jX (1000700 - 1) (by omega) false false l
 have hW := Ua (1000700 - 1) (by omega)
 have hdl : (BL d).length = d.length := BL_length d
 by_cases hl1 : l.length > 19200
 ·rw [An hl1] at hH
  refine fnk (by omega) Iw rfl ?_
  unfold law18_HeadKeeps
  repeat' (first | refine qS ?_ | refine qN ?_ | refine Ab hH ?_ | refine qQ ?_ | fail)
  exact ⟨Or.inr rfl, _, rfl, rfl⟩
 rw [Ba hl1] at hH
 have hl : l.length < 1000000 := by omega
 by_cases hd1 : d.length > 1280
 ·have hd1' : (d.length : Int) > 1280 := by omega
  refine fnk (by omega) Iw rfl ?_
  unfold law18_HeadKeeps
  repeat' (first | refine qS ?_ | refine qN ?_ | refine Ab hH ?_ | refine Bi (n := d.length) rfl hdl rfl rfl ?_ | refine qQ ?_ | fail)
  exact ⟨Or.inr rfl, _, rfl, rfl⟩
 have hd1' : ¬ (d.length : Int) > 1280 := by omega
 obtain ⟨m, hm3, hm4⟩ : ∃ m : Int, kind % 18446744073709551616 % 4 = m ∧ (m = 0 ∨ m = 1 ∨ m = 2 ∨ m = 3) := ⟨_, rfl, by omega⟩
 have hm0 : 0 ≤ m ∧ m < 4 := by omega
 have pO := c_Do (1000700 - 1) (by omega) false l hl m hm4 frm count source false false 1 d (.inl rfl) (by omega)
 cases h : doP l m frm count source d with
 | error e =>
  rw [h] at pO
  have he := Aaf h
  have he' : (e : Int) ≠ 0 := by omega
  unfold Ly at pO
  simp only at pO
  refine fnk (by omega) Iw rfl ?_
  unfold law18_HeadKeeps
  repeat' (first
   | refine qS ?_ | refine qN ?_ | refine Ab hH ?_ | refine Bi (n := d.length) rfl hdl rfl rfl ?_ | refine Ab pO ?_ | refine Ab hW ?_
   | refine Bi (n := 0) rfl rfl rfl rfl ?_ | (rw [hm3]) | refine qQ ?_ | fail)
  exact ⟨Or.inr rfl, _, rfl, rfl⟩
 | ok ios =>
  rw [h] at pO
  obtain ⟨hok, x, x', X, hO, hv2, hF⟩ := Aha hl hm4 h
  unfold Ly at pO
  simp only at pO
  have hil := hok.1
  have hd2 := uP hO.dev hO.len
  have hl2 : (Bs l ios).length < 1000000 := by rw [hO.len]; exact hl
  have hq := (Iy hl).2 ⟨hO.dev, hO.img⟩
  have hq2 := (Iy hl2).2 ⟨hd2, hO.img'⟩
  have pA := Rv (1000700 - 1) (by omega) false false l hl false false 3 ios (.inl rfl) hil (fun y hy => (hok.2 y hy).1)
  unfold Ny at pA
  rw [if_neg (fun h => h hO.right)] at pA
  have pV := dN (1000700 - 1) (by omega) false l hl
  have pV2 := dN (1000700 - 1) (by omega) false (Bs l ios) hl2
  have pS := Auj (1000700 - 1) (by omega) false (Bs l ios) hl2
  unfold lN at pS
  rw [hq] at pV
  rw [hq2] at pV2 pS
  unfold Aev at pV pV2
  simp only at pV pV2 pS
  have hvo := kE hO.dev (Sa hO.dev hO.img)
  have hvo2 := kE hd2 (Sa hd2 hO.img')
  rw [hv2] at pV2 hvo2
  generalize Bs l ios = l2 at *
  generalize Ci l x = v at *
  obtain ⟨V, S, O⟩ := v
  obtain ⟨vo1, ⟨vo3, vo4⟩, vo5, vo6⟩ := hvo
  obtain ⟨wo1, _, _⟩ := hvo2
  unfold ViewV.cs at pV pV2
  simp only at pV pV2 hF vo1 vo3 vo4 vo5 vo6 wo1
  obtain ⟨fS, sS, eS, hS⟩ := Sp S
  obtain ⟨fO, sO, eO, hOs⟩ := Sp O
  have kS := Tl (1000700 - 1) (by omega) false fS false fS sS sS S S vo3 vo3 hS hS vo4 vo4
  have kO := Tl (1000700 - 1) (by omega) false fO false fO sO sO O O vo5 vo5 hOs hOs vo6 vo6
  rw [An rfl] at kS kO
  rw [eS, eO] at pV pV2
  unfold Tb at pV pV2
  have hvl : (V.map El).length = V.length := Ah _
  have hxl : (X.map El).length = X.length := Ah _
  have hX1 := wo1.1
  have hV1 := vo1.1
  rcases hF with ⟨hne, hXV, a, n, rfl, han, hn0, hn1, hsame⟩ | ⟨rfl, z, rfl, hz, hXz, hsame⟩
  ·have hne' : ¬ m = 3 := hne
   have hXV' : (X.length : Int) = V.length := by omega
   by_cases hm00 : m = 0
   ·subst hm00
    have hn0 := hn0 rfl
    have hdn : (d.length : Int) / 64 = (n : Int) := by omega
    refine fnk (by omega) Iw rfl ?_
    unfold law18_HeadKeeps
    repeat' (first
     | refine qS ?_ | refine qN ?_ | refine Ab hH ?_ | refine Bi (n := d.length) rfl hdl rfl rfl ?_ | refine Ab pO ?_ | refine Ab pA ?_ | refine Ab pV ?_
     | refine Ab pV2 ?_ | refine Ab pS ?_ | refine Ab kS ?_ | refine Ab kO ?_ | refine Hn ?_ (hl := by kernel_rfl) | refine Bi (n := V.length) rfl hvl rfl rfl ?_
     | refine Bi (n := X.length) rfl hxl rfl rfl ?_ | (rw [hm3]) | (rw [hdn]) | refine qQ ?_ | fail)
    refine W.mono (gJ (k := 1000700 - 1) (A := a) (M := n) (V := V) (X := X) (c1 := .islc false fS sS (S.map SnapV.av)) (c2 := .islc false fO sO (O.map SnapV.av)) (d1 := .islc false fS sS (S.map SnapV.av)) (d2 := .islc false fO sO (O.map SnapV.av)) (by omega) vo1 wo1 ⟨by omega, by omega⟩ ⟨by omega, by omega⟩ (fun i hi hh => ⟨by omega, hsame i hi (by omega)⟩) rfl rfl ⟨rfl, rfl, rfl, rfl, rfl, trivial⟩) ?_
    rintro ex T2 H2 rfl
    show W _ _
    repeat' (first | refine qS ?_ | refine qN ?_ | refine Ab hW ?_ | refine qQ ?_ | refine Af (fun _ => ?_) (fun _ => ?_))
    exact ⟨Or.inr rfl, _, rfl, rfl⟩
   ·have hn1 := hn1 hm00
    subst hn1
    refine fnk (by omega) Iw rfl ?_
    unfold law18_HeadKeeps
    repeat' (first
     | refine qS ?_ | refine qN ?_ | refine Ab hH ?_ | refine Bi (n := d.length) rfl hdl rfl rfl ?_ | refine Ab pO ?_ | refine Ab pA ?_ | refine Ab pV ?_
     | refine Ab pV2 ?_ | refine Ab pS ?_ | refine Ab kS ?_ | refine Ab kO ?_ | refine Hn ?_ (hl := by kernel_rfl) | refine Bi (n := V.length) rfl hvl rfl rfl ?_
     | refine Bi (n := X.length) rfl hxl rfl rfl ?_ | (rw [hm3]) | refine qQ ?_ | fail)
    refine W.mono (gJ (k := 1000700 - 1) (A := a) (M := n) (V := V) (X := X) (c1 := .islc false fS sS (S.map SnapV.av)) (c2 := .islc false fO sO (O.map SnapV.av)) (d1 := .islc false fS sS (S.map SnapV.av)) (d2 := .islc false fO sO (O.map SnapV.av)) (by omega) vo1 wo1 ⟨by omega, by omega⟩ ⟨by omega, by omega⟩ (fun i hi hh => ⟨by omega, hsame i hi (by omega)⟩) rfl rfl ⟨rfl, rfl, rfl, rfl, rfl, trivial⟩) ?_
    rintro ex T2 H2 rfl
    show W _ _
    repeat' (first | refine qS ?_ | refine qN ?_ | refine Ab hW ?_ | refine qQ ?_ | refine Af (fun _ => ?_) (fun _ => ?_))
    exact ⟨Or.inr rfl, _, rfl, rfl⟩
  ·have hXz' : (X.length : Int) = z := by omega
   refine fnk (by omega) Iw rfl ?_
   unfold law18_HeadKeeps
   repeat' (first
    | refine qS ?_ | refine qN ?_ | refine Ab hH ?_ | refine Bi (n := d.length) rfl hdl rfl rfl ?_ | refine Ab pO ?_ | refine Ab pA ?_ | refine Ab pV ?_
    | refine Ab pV2 ?_ | refine Ab pS ?_ | refine Ab kS ?_ | refine Ab kO ?_ | refine Hn ?_ (hl := by kernel_rfl) | refine Bi (n := V.length) rfl hvl rfl rfl ?_
    | refine Bi (n := X.length) rfl hxl rfl rfl ?_ | (rw [hm3]) | refine qQ ?_ | fail)
   refine W.mono (gJ (k := 1000700 - 1) (A := min (V.length : Int) z) (M := 512) (V := V) (X := X) (c1 := .islc false fS sS (S.map SnapV.av)) (c2 := .islc false fO sO (O.map SnapV.av)) (d1 := .islc false fS sS (S.map SnapV.av)) (d2 := .islc false fO sO (O.map SnapV.av)) (by omega) vo1 wo1 ⟨by omega, by omega⟩ ⟨by omega, by omega⟩ (fun i hi hh => ⟨by omega, hsame i (by omega) (by omega)⟩) rfl rfl ⟨rfl, rfl, rfl, rfl, rfl, trivial⟩) ?_
   rintro ex T2 H2 rfl
   show W _ _
   repeat' (first | refine qS ?_ | refine qN ?_ | refine Ab hW ?_ | refine qQ ?_ | refine Af (fun _ => ?_) (fun _ => ?_))
   exact ⟨Or.inr rfl, _, rfl, rfl⟩
end Go.Proofs.YtkpndfkpdnknkaaGreat

