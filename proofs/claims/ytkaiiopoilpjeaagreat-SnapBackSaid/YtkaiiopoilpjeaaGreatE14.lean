import Derived.Test.YtkaiiopoilpjeaaGreatMFb
import Derived.Test.YtkaiiopoilpjeaaGreatMF
import Derived.Test.YtkaiiopoilpjeaaGreatMD2b
import Derived.Test.YtkaiiopoilpjeaaGreatMJ8
set_option linter.unusedSimpArgs false
set_option linter.unusedVariables false
set_option maxRecDepth 10000
set_option maxHeartbeats 16000000
namespace Go.Proofs.YtkaiiopoilpjeaaGreat
open Go.AI
attribute [local irreducible] aops Bo Cn Dh aop W WO
theorem Ayh (k : Nat) (hk : 1000090 ≤ k) (f : Bool) (l : List UInt8) (hl : l.length < 1000000) : FnV (CF k) sA [.islc false f 1 (BL l)] (iG (Ff l)) := by
 have hlk := Uj (k - 1) (by omega) f l hl
 refine fnk (by omega) Aip rfl ?_
 unfold pM
 cases h : Ff l with
 | error p =>
  obtain ⟨a, e⟩ := p
  have he := Gr h
  rw [h] at hlk
  unfold Nb at hlk
  unfold iG
  simp only at hlk ⊢
  have he0 : (e : Int) ≠ 0 := by omega
  repeat' (first | refine Am (hlk) (fun _ => ?_) (fun _ => ?_) | refine Aa (hlk) ?_ | refine qQb ?_ | refine Ac (fun _ => ?_) (fun _ => ?_))
  exact ⟨Or.inr rfl, _, rfl, rfl⟩
 | ok x =>
  rw [h] at hlk
  unfold Nb at hlk
  unfold iG
  simp only at hlk ⊢
  obtain ⟨s, slot, recs, blocks, trees⟩ := x
  unfold Img.cs at hlk
  unfold stCs
  simp only at hlk ⊢
  obtain ⟨f1, s1, hr, _⟩ := rIvF recs
  obtain ⟨f2, s2, hb, _⟩ := Iq blocks
  rw [hr, hb] at hlk
  rw [hr]
  repeat' (first | refine qS ?_ | refine De ?_ | refine Am (hlk) (fun _ => ?_) (fun _ => ?_) | refine Aa (hlk) ?_ | refine qQb ?_ | refine Ac (fun _ => ?_) (fun _ => ?_))
  exact ⟨Or.inr rfl, _, rfl, rfl⟩
theorem Azf {l : List UInt8} (hl : l.length < 1000000) {m : Int} (hm4 : m = 0 ∨ m = 1 ∨ m = 2 ∨ m = 3) (frm count source : Int) {d : List UInt8} (hd : d.length < 100000) : ∃ X : List UInt8, X.length < 1000000 ∧
  ((∃ e : Nat, (e : Int) ≠ 0 ∧ FnV (CF (1000700 - 1)) Zq [.islc false false 1 (BL l), .int .i64 m, .int .i64 frm, .int .i64 count, .int .i64 source, .islc false false 1 (BL d)] (.tup [.islc false true 0 [], .int .i64 e]) ∧ X = l) ∨
  (∃ ios : List IoV, FnV (CF (1000700 - 1)) Zq [.islc false false 1 (BL l), .int .i64 m, .int .i64 frm, .int .i64 count, .int .i64 source, .islc false false 1 (BL d)] (.tup [.islc false false 3 (ios.map IoV.av), .int .i64 0]) ∧
   FnV (CF (1000700 - 1)) Ws [.islc false false 1 (BL l), .islc false false 3 (ios.map IoV.av)] (.tup [.islc false false 1 (BL X), .int .i64 0]))) := by
 have pO := c_Do (1000700 - 1) (by omega) false l hl m hm4 frm count source false false 1 d (.inl rfl) hd
 cases h : doP l m frm count source d with
 | error e =>
  rw [h] at pO
  have he := fK h
  exact ⟨l, hl, .inl ⟨e, by omega, pO, rfl⟩⟩
 | ok ios =>
  rw [h] at pO
  obtain ⟨⟨x, x', _, hO, _⟩, hok, hle⟩ := oM hl h
  have pA := Up (1000700 - 1) (by omega) false false l hl false false 3 ios (.inl rfl) hok.1 (fun y hy => (hok.2 y hy).1)
  unfold Pf at pA
  rw [if_neg (fun h => h hO.right)] at pA
  exact ⟨Bl l ios, by rw [hO.len]; exact hl, .inr ⟨ios, pO, pA⟩⟩
theorem Afo (l : List UInt8) (hm : l.length ≤ maxLen) (id kind frm count source : Int) (d : List UInt8) (hdm : d.length ≤ maxLen) : ∃ H, CF 1000700 Sf 0 [.islc false false 1 (BL l), .int .i64 id, .int .i64 kind, .int .i64 frm, .int .i64 count, .int .i64 source, .islc false false 1 (BL d)] Heap.none = some (.bool true, H) := by
 suffices h : FnV (CF 1000700) Sf [.islc false false 1 (BL l), .int .i64 id, .int .i64 kind, .int .i64 frm, .int .i64 count, .int .i64 source, .islc false false 1 (BL d)] (.bool true) by
  obtain ⟨u, H, h1, h2⟩ := h
  refine ⟨H, ?_⟩
  rw [h1, fB h2]
 have hH := Zd (1000700 - 1) (by omega) false false l
 have hW := Acp (1000700 - 1) (by omega)
 have hdl : (BL d).length = d.length := BL_length d
 by_cases hl1 : l.length > 19200
 ·rw [Aq hl1] at hH
  refine fnk (by omega) Oe rfl ?_
  unfold Ly
  repeat' (first | refine qS ?_ | refine qN ?_ | refine Aa hH ?_ | refine qQ ?_ | fail)
  exact ⟨Or.inr rfl, _, rfl, rfl⟩
 rw [Ay hl1] at hH
 have hl : l.length < 1000000 := by omega
 by_cases hd1 : d.length > 1280
 ·have hd1' : (d.length : Int) > 1280 := by omega
  refine fnk (by omega) Oe rfl ?_
  unfold Ly
  repeat' (first | refine qS ?_ | refine qN ?_ | refine Aa hH ?_ | refine Ak (n := d.length) rfl hdl rfl rfl ?_ | refine qQ ?_ | fail)
  exact ⟨Or.inr rfl, _, rfl, rfl⟩
 have hd1' : ¬ (d.length : Int) > 1280 := by omega
 obtain ⟨m, hm3, hm4⟩ : ∃ m : Int, kind % 18446744073709551616 % 4 = m ∧ (m = 0 ∨ m = 1 ∨ m = 2 ∨ m = 3) := ⟨_, rfl, by omega⟩
 have hm0 : 0 ≤ m ∧ m < 4 := by omega
 obtain ⟨X, hX, hdo⟩ := Azf hl hm4 frm count source (d := d) (by omega)
 have pP := Ayh (1000700 - 1) (by omega) false X hX
 have pR := wZ (1000700 - 1) (by omega) false X hX id
 by_cases hro : ∃ ios, Ti X id = .ok (ios, 0)
 rotate_left 1
 ·
  have hno : ∃ (a0 a1 a2 a3 a4 a5 : Nat) (f1 : Bool) (s1 : Nat) (es : List AV) (e2 e3 : Nat) (f3 : Bool) (s3 : Nat), (e2 : Int) ≠ 0 ∧ ((e3 : Int) = 0 ∨ (e2 : Int) = e3 ∧ (e3 : Int) ≠ 0) ∧ iG (Ff X) = .tup [.agg [.int .i64 a0, .int .i64 a1, .int .i64 a2, .int .i64 a3, .int .i64 a4, .int .i64 a5, .islc false f1 s1 es], .int .i64 e3] ∧ Afe (Ti X id) = .tup [.islc false f3 s3 [], .int .i64 e2] := by
   cases hq : Ff X with
   | error p =>
    obtain ⟨a, e⟩ := p
    have he := Gr hq
    refine ⟨0, 0, 0, 0, 0, 0, true, 0, [], e, e, true, 0, by omega, .inr ⟨rfl, by omega⟩, rfl, ?_⟩
    unfold Ti
    rw [hq]; rfl
   | ok x =>
    obtain ⟨f1, s1, hr, _⟩ := rIvF x.recs
    have hop : iG (.ok x) = .tup [.agg [.int .i64 x.sup.gen, .int .i64 x.sup.blocks, .int .i64 x.sup.root, .int .i64 x.sup.size, .int .i64 x.sup.first, .int .i64 x.slot, .islc false f1 s1 (x.recs.map Rec.av)], .int .i64 (0 : Nat)] := by
     unfold iG stCs
     simp only
     rw [hr]; rfl
    cases hrp : Ti X id with
    | error e =>
     have he := Aru hrp
     exact ⟨_, _, _, _, _, _, _, _, _, e, 0, _, _, by omega, .inl rfl, hop, rfl⟩
    | ok p =>
     obtain ⟨ios, e⟩ := p
     have he : e ≠ 0 := fun h => hro ⟨ios, by rw [hrp, h]⟩
     have hz := (vE hrp).2 he
     subst hz
     exact ⟨_, _, _, _, _, _, _, _, _, e, 0, _, _, by omega, .inl rfl, hop, rfl⟩
  obtain ⟨a0, a1, a2, a3, a4, a5, f1, s1, es, e2, e3, f3, s3, he2, he3, h1, h2⟩ := hno
  rw [h1] at pP
  rw [h2] at pR
  rcases he3 with he3 | ⟨he3, he4⟩
  all_goals
   rcases hdo with ⟨e, he', pO, hXl⟩ | ⟨ios1, pO, pA⟩
  all_goals
   try subst hXl
  all_goals
   refine fnk (by omega) Oe rfl ?_
   unfold Ly
   repeat' (first
    | refine qS ?_ | refine qN ?_ | refine Aa hH ?_ | refine Ak (n := d.length) rfl hdl rfl rfl ?_ | refine Aa pO ?_ | refine Aa pA ?_ | refine Aa pP ?_
    | refine Aa pR ?_ | refine Aa hW ?_ | refine Fp ?_ (hl := by kernel_rfl) | refine Ak (n := 0) rfl rfl rfl rfl ?_ | (rw [hm3]) | refine qQ ?_ | fail)
  all_goals exact ⟨Or.inr rfl, _, rfl, rfl⟩
 ·obtain ⟨ios, hrp⟩ := hro
  obtain ⟨x, x2, j, hO, hfd, hoj, s, hsat, hsid, hv2⟩ := Axn hX hrp
  have hok := (vE hrp).1
  rw [hrp] at pR
  unfold Afe at pR
  simp only at pR
  have hd2 := Pk hO.dev hO.len
  have hX2 : (Bl X ios).length < 1000000 := by rw [hO.len]; exact hX
  have hq := (Fk hX).2 ⟨hO.dev, hO.img⟩
  have hq2 := (Fk hX2).2 ⟨hd2, hO.img'⟩
  have hx := La hO.dev hO.img
  have pA2 := Up (1000700 - 1) (by omega) false false X hX false false 3 ios (.inl rfl) hok.1 (fun y hy => (hok.2 y hy).1)
  unfold Pf at pA2
  rw [if_neg (fun h => h hO.right)] at pA2
  have pV := Kt (1000700 - 1) (by omega) false X hX
  have pV2 := Kt (1000700 - 1) (by omega) false (Bl X ios) hX2
  have pS := kP (1000700 - 1) (by omega) false (Bl X ios) hX2
  unfold Xj at pS
  rw [hq] at pV pP
  rw [hq2] at pV2 pS
  have hvo := Ns hO.dev hx
  generalize Bl X ios = l2 at *
  obtain ⟨f1, s1, hr, hs1⟩ := rIvF x.recs
  unfold iG stCs at pP
  simp only at pP
  rw [hr] at pP
  have pF := Awt (1000700 - 1) (by omega) false f1 s1 x.recs (.int .i64 x.sup.gen) (.int .i64 x.sup.blocks) (.int .i64 x.sup.root) (.int .i64 x.sup.size) (.int .i64 x.sup.first) (.int .i64 x.slot) id hs1 (by have := hx.few; omega) rfl
  rw [hfd, if_neg (by omega)] at pF
  unfold Rv at pV pV2
  simp only at pV pV2 pS
  generalize Cv X x = v at *
  obtain ⟨hdv, S, O⟩ := v
  obtain ⟨⟨vo1, vo2⟩, ⟨vo3, vo4⟩, vo5, vo6⟩ := hvo
  simp only at hoj hsat hv2 vo1 vo2 vo3 vo4 vo5 vo6
  rw [hv2] at pV2
  unfold ViewV.cs at pV pV2
  simp only at pV pV2
  obtain ⟨fS, sS, eS, hS⟩ := Hw S
  obtain ⟨fO, sO, eO, hOs⟩ := Hw O
  have hso : Sa s.sectors := vo4 s (List.mem_of_getElem? hsat)
  have kS := Mk (1000700 - 1) (by omega) false fS false fS sS sS S S vo3 vo3 hS hS vo4 vo4
  have kO := Mk (1000700 - 1) (by omega) false fO false fO sO sO O O vo5 vo5 hOs hOs vo6 vo6
  have kR := Pt (1000700 - 1) (by omega) false false false false 1 1 s.sectors s.sectors hso.1 hso.1 (.inl rfl) (.inl rfl) hso.2 hso.2
  rw [Aq rfl] at kR kS kO
  rw [eS, eO] at pV pV2
  unfold Qs at pV pV2
  obtain ⟨q, hqe⟩ : ∃ q, q = j - O.length := ⟨_, rfl⟩
  rw [← hqe] at hsat
  have e1 : (j : Int) - (O.length : Int) = (q : Int) := by omega
  obtain ⟨hqS, _⟩ := Cu.1 hsat
  obtain rfl : sS = 5 := hS.resolve_right fun hh => by rw [hh] at hqS; simp at hqS
  have he : (S.map SnapV.av)[(q : Int).toNat]? = some (.agg [.int .i64 s.id, .int .i64 s.parent, .islc false false 1 (s.sectors.map Et), .int .i64 s.frames, .int .i64 s.digest]) := by
   rw [As, Az, hsat]; rfl
  have hsl : (S.map SnapV.av).length = S.length := Ag _
  have hol : (O.map SnapV.av).length = O.length := Ag _
  rcases hdo with ⟨e, he', pO, hXl⟩ | ⟨ios1, pO, pA⟩
  all_goals
   try subst hXl
  all_goals
   refine fnk (by omega) Oe rfl ?_
   unfold Ly
   repeat' (first
    | refine qS ?_ | refine qN ?_ | refine Aa hH ?_ | refine Ak (n := d.length) rfl hdl rfl rfl ?_ | refine Aa pO ?_ | refine Aa pA ?_ | refine Aa pP ?_
    | refine Aa pR ?_ | refine Aa pA2 ?_ | refine Aa pV ?_ | refine Aa pV2 ?_ | refine Aa pF ?_ | refine Aa pS ?_ | refine Aa kS ?_ | refine Aa kO ?_
    | refine Aa kR ?_ | refine Aa hW ?_ | refine Fp ?_ (hl := by kernel_rfl) | refine Ak (n := S.length) rfl hsl rfl rfl ?_
    | refine Ak (n := O.length) rfl hol rfl rfl ?_ | refine Ce rfl rfl (by omega) he rfl rfl ?_ | (rw [hm3]) | (rw [e1]) | refine qQa ?_ | fail)
  all_goals exact ⟨Or.inr rfl, _, rfl, rfl⟩
end Go.Proofs.YtkaiiopoilpjeaaGreat

