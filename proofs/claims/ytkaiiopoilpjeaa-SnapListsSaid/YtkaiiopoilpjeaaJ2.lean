import Derived.Test.YtkaiiopoilpjeaaJ1
set_option linter.unusedSimpArgs false
set_option linter.unusedVariables false
set_option maxRecDepth 10000
set_option maxHeartbeats 16000000
namespace Go.Proofs.Ytkaiiopoilpjeaa
open Go.AI
attribute [local irreducible] aops Bb Cj Dm aop W WO
theorem Pk {b : List UInt8} (h : (Dt b).2 = 0) : (Dt b).1.ok := by
 unfold Dt at h ⊢
 split at h
 ·rename_i h1; exact absurd h h1
 ·rename_i h1
  rw [if_neg h1]
  split at h
  ·rename_i h2; rw [if_pos h2]; exact h2
  ·cases h
theorem qD (k : Nat) (hk : 1000050 ≤ k) {f : Bool} {l : List UInt8} (hd : Dev l) {first : Nat} {T : Tmps} {H : Heap} (hch : ChAt H cs0)
  (hT : Has T [(0, .islc false f 1 (BL l)), (5, .int .i64 (nb l : Nat)), (7, .ptr 0 1 1 4 0 0), (8, .int .i64 first)]) :
  W (Bb (CF k) noX 0 k (.loop Su) T H) (fun ex T' H' => ChAt H' (Db l 64 first cs0) ∧ ((ex = .exit 0 ∧ T' 7 = .ptr 0 1 1 4 0 0) ∨ (ex = .ret ∧ T' 4 = .ptr 0 1 1 4 0 0))) := by
 refine aY (fun m T H => ∃ c a, Db l 64 first cs0 = Db l (m + 1) a c ∧ ChAt H c ∧ c.l.length + m = 63 ∧ c.l.length ≤ c.whole + 1 ∧ c.whole ≤ 60 ∧ Has T [(0, .islc false f 1 (BL l)), (5, .int .i64 (nb l : Nat)), (7, .ptr 0 1 1 4 0 0), (8, .int .i64 (a : Nat))])
  63 ⟨cs0, first, rfl, hch, rfl, by decide, by decide, hT⟩ (by omega) ?_
 rintro m T H hm ⟨c, a, hgo, hch, hlm, hl1, hw60, hT⟩
 have hn := hd.nb
 rw [hT.eq]
 simp only [over]
 unfold Su
 by_cases ha0 : a = 0
 ·have hgo : Db l 64 first cs0 = c := by rw [hgo, Db, if_pos ha0]
  repeat' (first | refine qS ?_ | refine qN ?_ | refine qQb ?_ | refine Ab (fun _ => ?_) (fun _ => ?_) | refine Ax fun _ => ?_)
  rw [hgo]
  exact ⟨hch, .inl ⟨rfl, rfl⟩⟩
 have hgo : Db l 64 first cs0 = if a < 2 ∨ nb l ≤ a ∨ c.blocks.any (a == ·) = true then { c with bad := a } else if (Dt (blk l a)).2 ≠ 0 ∨ mayP c (Dt (blk l a)).1 = false then { c with bad := a } else Db l m (Dt (blk l a)).1.next (c.put a (Dt (blk l a)).1) := by
  rw [hgo, Db, if_neg ha0]
 have hof := fun h : a < nb l => Qn (k) (by omega) false f l a hd.1 (hd.le h)
 have hp := fun h : a < nb l => gK k (by omega) false (f && decide (64 * (a + 1) = l.length)) (blk l a) (by rw [Yf (hd.le h)]; omega)
 have hpok := Pk (b := blk l a)
 obtain ⟨x, hx⟩ : ∃ x, x = Dt (blk l a) := ⟨_, rfl⟩
 rw [← hx] at hp hpok hgo
 have hmy : FnV (CF k) Ka [.iptr true (chCs true { c with bad := a }), x.1.av] (.bool (mayP c x.1)) := Aia k (by omega) { c with bad := a } x.1 (by show c.l.length < _; omega)
 obtain ⟨⟨r1, r2, r3, r4, r5, r6, r7, r8⟩, e⟩ := x
 unfold Rec.av at hp hmy
 simp only at hp hmy hpok hgo
 rcases hch with ⟨q1, q2, g0, g3, g5⟩ | ⟨q1, q2, g0, g3, g5⟩
 ·have hct : FnV (CF k) Cm [.islc false true 0 [], .int .i64 a] (.bool false) := cD k (by omega) false true 0 a
  by_cases h2 : a < 2 ∨ nb l ≤ a
  ·rw [if_pos (by rcases h2 with h | h; exact .inl h; exact .inr (.inl h))] at hgo
   rw [hgo]
   repeat' (first
    | refine qS ?_ | refine qN ?_ | refine Ej ?_ | refine Bj ?_ (hr := by exact g0) (hl := by kernel_rfl) | refine Cr ?_ (hr := by exact g0) | refine qQb ?_
    | refine Ab (fun _ => ?_) (fun _ => ?_) | refine Ax fun _ => ?_)
   all_goals exact ⟨.inl ⟨q1, q2, rfl, g3, g5⟩, .inr ⟨rfl, rfl⟩⟩
  cases hc : c.blocks.any (a == ·) with
  | true =>
   rw [q2] at hc
   cases hc
  | false =>
   rw [hc] at hgo
   rw [if_neg (by simp; omega)] at hgo
   have hof := hof (by omega)
   have hp := hp (by omega)
   by_cases he : e ≠ 0
   ·rw [if_pos (.inl he)] at hgo
    rw [hgo]
    repeat' (first
     | refine qS ?_ | refine qN ?_ | refine Gr (hof _ _) rfl rfl rfl ?_ | refine Ej ?_ | refine Bj ?_ (hr := by exact g0) (hl := by kernel_rfl)
     | refine Cr ?_ (hr := by exact g0) | refine Ad hct ?_ | refine Ag (hp) (fun _ => ?_) (fun _ => ?_) | refine Ad (hp) ?_ | refine qQb ?_
     | refine Ab (fun _ => ?_) (fun _ => ?_) | refine Ax fun _ => ?_)
    exact ⟨.inl ⟨q1, q2, rfl, g3, g5⟩, .inr ⟨rfl, rfl⟩⟩
   have he := Cw.1 he
   have hok := hpok he
   cases hmm : mayP c ⟨r1, r2, r3, r4, r5, r6, r7, r8⟩ with
   | false =>
    rw [hmm] at hmy hgo
    rw [if_pos (.inr rfl)] at hgo
    rw [hgo]
    repeat' (first
     | refine qS ?_ | refine qN ?_ | refine Gr (hof _ _) rfl rfl rfl ?_ | refine Ej ?_ | refine Bj ?_ (hr := by exact g0) (hl := by kernel_rfl)
     | refine Cr ?_ (hr := by exact g0) | refine Ad hct ?_
     | refine Ad hmy ?_ rfl (by show [fz false (2 + 4) _ (.ptr 0 1 1 4 0 0), _] = _; exact Ay (fun z => [z, _]) (Ou (c := { c with bad := a }) (by exact .inl ⟨q1, q2, rfl, g3, g5⟩) 2))
     | refine Ag (hp) (fun _ => ?_) (fun _ => ?_) | refine Ad (hp) ?_ | refine qQb ?_ | refine Ab (fun _ => ?_) (fun _ => ?_) | refine Ax fun _ => ?_)
    exact ⟨.inl ⟨q1, q2, rfl, g3, g5⟩, .inr ⟨rfl, rfl⟩⟩
   | true =>
    rw [hmm] at hmy hgo
    rw [if_neg (by simp [he])] at hgo
    have hk6 : r6 = 0 ∧ c.whole < 60 ∨ r6 = 1 ∧ c.l = [] := by
     rcases hok.2.2.2.2 with h | h
     ·refine .inl ⟨h.1, ?_⟩
      unfold mayP at hmm
      rw [if_neg (by show ¬ r6 = 1; have := h.1; simp only at this; omega)] at hmm
      simp at hmm
      exact hmm.2
     ·refine .inr ⟨h.1, ?_⟩
      unfold mayP at hmm
      rw [if_pos (by exact h.1)] at hmm
      simpa using hmm
    by_cases hk0 : r6 = 0
    ·skip
     repeat' (first
      | refine qS ?_ | refine qN ?_ | refine Gr (hof _ _) rfl rfl rfl ?_ | refine Ej ?_ | refine Bj ?_ (hr := by exact g0) (hl := by kernel_rfl)
      | refine Cr ?_ (hr := by exact g0) | refine Ad hct ?_
      | refine Ad hmy ?_ rfl (by show [fz false (2 + 4) _ (.ptr 0 1 1 4 0 0), _] = _; exact Ay (fun z => [z, _]) (Ou (c := { c with bad := a }) (by exact .inl ⟨q1, q2, rfl, g3, g5⟩) 2))
      | refine Mf ?_ (hl := by kernel_rfl) | refine Vb rfl rfl rfl rfl rfl rfl ?_ | refine Vb rfl rfl rfl rfl rfl rfl ?_
      | refine Ag (hp) (fun _ => ?_) (fun _ => ?_) | refine Ad (hp) ?_ | refine qQb ?_ | refine Ab (fun _ => ?_) (fun _ => ?_) | refine Ax fun _ => ?_)
     have hpw : (c.put a ⟨r1, r2, r3, r4, r5, r6, r7, r8⟩).whole = c.whole + 1 := if_pos hk0
     refine ⟨by omega, c.put a ⟨r1, r2, r3, r4, r5, r6, r7, r8⟩, r1, by rw [hgo, show m - 1 + 1 = m by omega], .inr ⟨by simp [CS.put], by simp [CS.put, q1, q2], ?_, ?_, ?_⟩, by simp only [CS.put, Ar, As, Dl]; omega, by rw [hpw]; simp only [CS.put, Ar, As, Dl]; omega, by rw [hpw]; omega, rfl, rfl, rfl, rfl, trivial⟩
     ·rw [hpw]
      show (⟨1, false, .row 4 [.agg [.slc 3 ((H 3).gen + 1) 1 8 0 1 none, .slc 5 ((H 5).gen + 1) 1 1 0 1 none, .int .i64 (c.whole + 1 : Nat), .int .i64 0]]⟩ : Blk) = _
      rw [g3, g5]
      simp only [CS.put, q1]
      rfl
     ·show (⟨(H 3).gen + 1, false, .row 8 [.agg [.int .i64 r1, .int .i64 r2, .int .i64 r3, .int .i64 r4, .int .i64 r5, .int .i64 r6, .int .i64 r7, .int .i64 r8]]⟩ : Blk) = _
      rw [g3]
      simp only [CS.put, q1]
      rfl
     ·show (⟨(H 5).gen + 1, false, .row 1 [.int .i64 a]⟩ : Blk) = _
      rw [g5]
      simp only [CS.put, q2]
      rfl
    ·skip
     repeat' (first
      | refine qS ?_ | refine qN ?_ | refine Gr (hof _ _) rfl rfl rfl ?_ | refine Ej ?_ | refine Bj ?_ (hr := by exact g0) (hl := by kernel_rfl)
      | refine Cr ?_ (hr := by exact g0) | refine Ad hct ?_
      | refine Ad hmy ?_ rfl (by show [fz false (2 + 4) _ (.ptr 0 1 1 4 0 0), _] = _; exact Ay (fun z => [z, _]) (Ou (c := { c with bad := a }) (by exact .inl ⟨q1, q2, rfl, g3, g5⟩) 2))
      | refine Mf ?_ (hl := by kernel_rfl) | refine Vb rfl rfl rfl rfl rfl rfl ?_ | refine Vb rfl rfl rfl rfl rfl rfl ?_
      | refine Ag (hp) (fun _ => ?_) (fun _ => ?_) | refine Ad (hp) ?_ | refine qQb ?_ | refine Ab (fun _ => ?_) (fun _ => ?_) | refine Ax fun _ => ?_)
     have hpw : (c.put a ⟨r1, r2, r3, r4, r5, r6, r7, r8⟩).whole = c.whole := if_neg hk0
     refine ⟨by omega, c.put a ⟨r1, r2, r3, r4, r5, r6, r7, r8⟩, r1, by rw [hgo, show m - 1 + 1 = m by omega], .inr ⟨by simp [CS.put], by simp [CS.put, q1, q2], ?_, ?_, ?_⟩, by simp only [CS.put, Ar, As, Dl]; omega, by rw [hpw]; simp only [CS.put, Ar, As, Dl]; rw [q1]; simp, by rw [hpw]; omega, rfl, rfl, rfl, rfl, trivial⟩
     ·rw [hpw]
      show (⟨1, false, .row 4 [.agg [.slc 3 ((H 3).gen + 1) 1 8 0 1 none, .slc 5 ((H 5).gen + 1) 1 1 0 1 none, .int .i64 c.whole, .int .i64 0]]⟩ : Blk) = _
      rw [g3, g5]
      simp only [CS.put, q1]
      rfl
     ·show (⟨(H 3).gen + 1, false, .row 8 [.agg [.int .i64 r1, .int .i64 r2, .int .i64 r3, .int .i64 r4, .int .i64 r5, .int .i64 r6, .int .i64 r7, .int .i64 r8]]⟩ : Blk) = _
      rw [g3]
      simp only [CS.put, q1]
      rfl
     ·show (⟨(H 5).gen + 1, false, .row 1 [.int .i64 a]⟩ : Blk) = _
      rw [g5]
      simp only [CS.put, q2]
      rfl
 ·have hct : FnV (CF k) Cm [.islc true false 1 (NL c.blocks), .int .i64 a] (.bool (c.blocks.any (a == ·))) := Ri k (by omega) true false c.blocks a (by omega)
  by_cases h2 : a < 2 ∨ nb l ≤ a
  ·rw [if_pos (by rcases h2 with h | h; exact .inl h; exact .inr (.inl h))] at hgo
   rw [hgo]
   repeat' (first
    | refine qS ?_ | refine qN ?_ | refine Ej ?_ | refine Bj ?_ (hr := by exact g0) (hl := by kernel_rfl) | refine Cr ?_ (hr := by exact g0) | refine qQb ?_
    | refine Ab (fun _ => ?_) (fun _ => ?_) | refine Ax fun _ => ?_)
   all_goals exact ⟨.inr ⟨q1, q2, rfl, g3, g5⟩, .inr ⟨rfl, rfl⟩⟩
  cases hc : c.blocks.any (a == ·) with
  | true =>
   rw [hc] at hct hgo
   rw [if_pos (.inr (.inr rfl))] at hgo
   rw [hgo]
   repeat' (first
    | refine qS ?_ | refine qN ?_ | refine Ej ?_ | refine Bj ?_ (hr := by exact g0) (hl := by kernel_rfl) | refine Cr ?_ (hr := by exact g0)
    | refine Ad hct ?_ rfl (by show [fz false (4 + 2) _ (.slc 5 1 c.l.length 1 0 c.l.length none), _] = _; exact Ay (fun z => [z, AV.int .i64 (a : Nat)]) (Ge (by exact g5) q2 4))
    | refine qQb ?_ | refine Ab (fun _ => ?_) (fun _ => ?_) | refine Ax fun _ => ?_)
   exact ⟨.inr ⟨q1, q2, rfl, g3, g5⟩, .inr ⟨rfl, rfl⟩⟩
  | false =>
   rw [hc] at hgo hct
   rw [if_neg (by simp; omega)] at hgo
   have hof := hof (by omega)
   have hp := hp (by omega)
   by_cases he : e ≠ 0
   ·rw [if_pos (.inl he)] at hgo
    rw [hgo]
    repeat' (first
     | refine qS ?_ | refine qN ?_ | refine Gr (hof _ _) rfl rfl rfl ?_ | refine Ej ?_ | refine Bj ?_ (hr := by exact g0) (hl := by kernel_rfl)
     | refine Cr ?_ (hr := by exact g0)
     | refine Ad hct ?_ rfl (by show [fz false (4 + 2) _ (.slc 5 1 c.l.length 1 0 c.l.length none), _] = _; exact Ay (fun z => [z, AV.int .i64 (a : Nat)]) (Ge (by exact g5) q2 4))
     | refine Ag (hp) (fun _ => ?_) (fun _ => ?_) | refine Ad (hp) ?_ | refine qQb ?_ | refine Ab (fun _ => ?_) (fun _ => ?_) | refine Ax fun _ => ?_)
    exact ⟨.inr ⟨q1, q2, rfl, g3, g5⟩, .inr ⟨rfl, rfl⟩⟩
   have he := Cw.1 he
   have hok := hpok he
   cases hmm : mayP c ⟨r1, r2, r3, r4, r5, r6, r7, r8⟩ with
   | false =>
    rw [hmm] at hmy hgo
    rw [if_pos (.inr rfl)] at hgo
    rw [hgo]
    repeat' (first
     | refine qS ?_ | refine qN ?_ | refine Gr (hof _ _) rfl rfl rfl ?_ | refine Ej ?_ | refine Bj ?_ (hr := by exact g0) (hl := by kernel_rfl)
     | refine Cr ?_ (hr := by exact g0)
     | refine Ad hct ?_ rfl (by show [fz false (4 + 2) _ (.slc 5 1 c.l.length 1 0 c.l.length none), _] = _; exact Ay (fun z => [z, AV.int .i64 (a : Nat)]) (Ge (by exact g5) q2 4))
     | refine Ad hmy ?_ rfl (by show [fz false (2 + 4) _ (.ptr 0 1 1 4 0 0), _] = _; exact Ay (fun z => [z, _]) (Ou (c := { c with bad := a }) (by exact .inr ⟨q1, q2, rfl, g3, g5⟩) 2))
     | refine Ag (hp) (fun _ => ?_) (fun _ => ?_) | refine Ad (hp) ?_ | refine qQb ?_ | refine Ab (fun _ => ?_) (fun _ => ?_) | refine Ax fun _ => ?_)
    exact ⟨.inr ⟨q1, q2, rfl, g3, g5⟩, .inr ⟨rfl, rfl⟩⟩
   | true =>
    rw [hmm] at hmy hgo
    rw [if_neg (by simp [he])] at hgo
    have hk6 : r6 = 0 ∧ c.whole < 60 ∨ r6 = 1 ∧ c.l = [] := by
     rcases hok.2.2.2.2 with h | h
     ·refine .inl ⟨h.1, ?_⟩
      unfold mayP at hmm
      rw [if_neg (by show ¬ r6 = 1; have := h.1; simp only at this; omega)] at hmm
      simp at hmm
      exact hmm.2
     ·refine .inr ⟨h.1, ?_⟩
      unfold mayP at hmm
      rw [if_pos (by exact h.1)] at hmm
      simpa using hmm
    by_cases hk0 : r6 = 0
    ·skip
     repeat' (first
      | refine qS ?_ | refine qN ?_ | refine Gr (hof _ _) rfl rfl rfl ?_ | refine Ej ?_ | refine Bj ?_ (hr := by exact g0) (hl := by kernel_rfl)
      | refine Cr ?_ (hr := by exact g0)
      | refine Ad hct ?_ rfl (by show [fz false (4 + 2) _ (.slc 5 1 c.l.length 1 0 c.l.length none), _] = _; exact Ay (fun z => [z, AV.int .i64 (a : Nat)]) (Ge (by exact g5) q2 4))
      | refine Ad hmy ?_ rfl (by show [fz false (2 + 4) _ (.ptr 0 1 1 4 0 0), _] = _; exact Ay (fun z => [z, _]) (Ou (c := { c with bad := a }) (by exact .inr ⟨q1, q2, rfl, g3, g5⟩) 2))
      | refine Mf ?_ (hl := by kernel_rfl) | refine Xz rfl rfl rfl (by exact g3) (by rw [Ak]) rfl (by omega) rfl rfl ?_
      | refine Xz rfl rfl rfl (by exact g5) (by rw [Be]; exact q2) rfl (by omega) rfl rfl ?_ | refine Ag (hp) (fun _ => ?_) (fun _ => ?_) | refine Ad (hp) ?_
      | refine qQb ?_ | refine Ab (fun _ => ?_) (fun _ => ?_) | refine Ax fun _ => ?_)
     have hpw : (c.put a ⟨r1, r2, r3, r4, r5, r6, r7, r8⟩).whole = c.whole + 1 := if_pos hk0
     refine ⟨by omega, c.put a ⟨r1, r2, r3, r4, r5, r6, r7, r8⟩, r1, by rw [hgo, show m - 1 + 1 = m by omega], .inr ⟨by simp [CS.put], by simp [CS.put, q2], ?_, ?_, ?_⟩, by simp only [CS.put, Ar, As, Dl]; omega, by rw [hpw]; simp only [CS.put, Ar, As, Dl]; omega, by rw [hpw]; omega, rfl, rfl, rfl, rfl, trivial⟩
     ·rw [hpw]
      simp only [CS.put, Ar, As, Dl]
      rfl
     ·simp only [CS.put, Br]
      rfl
     ·simp only [CS.put, NL, Br]
      rfl
    ·skip
     exact absurd (hk6.resolve_left (fun h => hk0 h.1)).2 q1
theorem Aca (k : Nat) (hk : 1000060 ≤ k) (f : Bool) (l : List UInt8) (hd : Dev l) (first : Nat) : FnV (CF k) Wh [.islc false f 1 (BL l), .int .i64 first] (.iptr false (chCs false (Db l 64 first cs0))) := by
 have hck := Mj (k - 1) (by omega) false f l hd
 refine fnk (by omega) jK rfl ?_
 unfold open_follow
 repeat' (first | refine qS ?_ | refine qN ?_ | refine Ag (hck) (fun _ => ?_) (fun _ => ?_) | refine Ad (hck) ?_ | refine qQb ?_ | refine Ab (fun _ => ?_) (fun _ => ?_) | refine Ax fun _ => ?_)
 refine W.mono (qD (k - 1) (by omega) (f := f) (l := l) hd (first := first) (.inl ⟨rfl, rfl, rfl, rfl, rfl⟩) ⟨rfl, rfl, rfl, rfl, trivial⟩) ?_
 rintro ex T2 H2 ⟨hch, ⟨rfl, h7⟩ | ⟨rfl, h4⟩⟩
 ·rw [Has.eq (T := T2) (ps := [(7, _)]) ⟨h7, trivial⟩]
  simp only [over]
  show W _ _
  repeat' (first | refine qS ?_ | refine qN ?_ | refine qQb ?_ | refine Ab (fun _ => ?_) (fun _ => ?_) | refine Ax fun _ => ?_)
  exact ⟨Or.inr rfl, _, rfl, Ou hch 2⟩
 ·refine ⟨Or.inr rfl, _, rfl, ?_⟩
  show fz true (2 + 4) H2 (T2 4) = _
  rw [h4]
  exact Ou hch 2
end Go.Proofs.Ytkaiiopoilpjeaa

