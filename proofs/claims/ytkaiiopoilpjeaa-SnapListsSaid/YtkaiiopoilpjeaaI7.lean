import Derived.Test.YtkaiiopoilpjeaaMI2
set_option linter.unusedSimpArgs false
set_option linter.unusedVariables false
set_option maxRecDepth 10000
set_option maxHeartbeats 16000000
namespace Go.AI
theorem w_it {Q : Ex → Tmps → Heap → Prop} {T : Tmps} {H : Heap} {body : Tmps → Heap → XR} {n : Nat} (hn : 0 < n) (h : W (body T H) (Then (fun T H => W (Dm body (n - 1) T H) Q) Q)) : W (Dm body n T H) Q := by
 obtain ⟨n, rfl⟩ : ∃ m, n = m + 1 := ⟨n - 1, by omega⟩
 exact Aei h
end Go.AI
namespace Go.Proofs.Ytkaiiopoilpjeaa
open Go.AI
attribute [local irreducible] aops Bb Cj Dm aop W WO
def Dev (l : List UInt8) : Prop := l.length < 1000000 ∧ devB l.length
def nb (l : List UInt8) : Nat := l.length / 64
theorem Dev.le {l : List UInt8} (h : Dev l) {a : Nat} (ha : a < nb l) : 64 * (a + 1) ≤ l.length := by
 unfold nb at ha; omega
theorem Dev.nb {l : List UInt8} (h : Dev l) : 4 ≤ nb l ∧ nb l ≤ 4096 := by
 unfold Dev devB at h; unfold Proofs.Ytkaiiopoilpjeaa.nb; omega
theorem Yf {l : List UInt8} {a : Nat} (h : 64 * (a + 1) ≤ l.length) : (blk l a).length = 64 := by
 unfold blk; simp; omega
theorem Mj (k : Nat) (hk : 1 ≤ k) (t f : Bool) (l : List UInt8) (hd : Dev l) : FnV (CF k) Pv [.islc t f 1 (BL l)] (.tup [.int .i64 (nb l : Nat), .int .i64 0]) := by
 have := Tw k hk t f 1 l hd.1
 rw [if_pos hd.2] at this
 exact this
def qZ (a b : Sup × Int) (n : Nat) : Option (Sup × Nat) :=
 if a.2 = 0 ∧ a.1.blocks = n then if (b.2 = 0 ∧ b.1.blocks = n) ∧ a.1.gen < b.1.gen then some (b.1, 1) else some (a.1, 0)
 else if b.2 = 0 ∧ b.1.blocks = n then some (b.1, 1) else none
def Pw (l : List UInt8) : Option (Sup × Nat) := qZ (Fl (blk l 0)) (Fl (blk l 1)) (nb l)
def vN (l : List UInt8) : AV := match Pw l with
 | some (s, i) => .tup [s.av, .int .i64 (i : Nat), .int .i64 0]
 | none => .tup [sup0.av, .int .i64 0, .int .i64 8]
theorem nC (k : Nat) (hk : 1000031 ≤ k) (t f : Bool) (l : List UInt8) (hd : Dev l) : FnV (CF k) Oj [.islc t f 1 (BL l)] (vN l) := by
 have hn := hd.nb
 have hck := Mj (k - 1) (by omega) t f l hd
 have hp : ∀ f' i, i < nb l → FnV (CF (k - 1)) Qe [.islc t f' 1 (BL (blk l i))] (.tup [(Fl (blk l i)).1.av, .int .i64 (Fl (blk l i)).2]) := fun f' i hi => jL (k - 1) (by omega) t f' (blk l i) (by rw [Yf (hd.le hi)]; omega)
 have h0 := Qn (k - 1) (by omega) t f l 0 hd.1 (hd.le (by omega))
 have h1 := Qn (k - 1) (by omega) t f l 1 hd.1 (hd.le (by omega))
 have hp0 := hp (f && decide (64 * (0 + 1) = l.length)) 0 (by omega)
 have hp1 := hp (f && decide (64 * (1 + 1) = l.length)) 1 (by omega)
 unfold vN Pw
 obtain ⟨a, ha⟩ : ∃ a, a = Fl (blk l 0) := ⟨_, rfl⟩
 obtain ⟨b, hb⟩ : ∃ b, b = Fl (blk l 1) := ⟨_, rfl⟩
 rw [← ha] at hp0 ⊢
 rw [← hb] at hp1 ⊢
 obtain ⟨⟨ag, ab, ar, az, af⟩, ae⟩ := a
 obtain ⟨⟨bg, bb, br, bz, bf⟩, be⟩ := b
 unfold Sup.av at hp0 hp1
 unfold qZ
 simp only at hp0 hp1 ⊢
 refine fnk (by omega) oF rfl ?_
 unfold Xj
 by_cases hA : ae = 0 ∧ ab = nb l
 ·rw [if_pos hA]
  by_cases hB : be = 0 ∧ bb = nb l
  ·by_cases hg : ag < bg
   ·rw [if_pos ⟨hB, hg⟩]
    repeat' (first | refine qS ?_ | refine qN ?_ | refine Ag (hck) (fun _ => ?_) (fun _ => ?_) | refine Ad (hck) ?_ | refine qQb ?_ | refine Ab (fun _ => ?_) (fun _ => ?_))
    refine Ib (w_it (by omega) ?_)
    repeat' (first | refine qS ?_ | refine qN ?_ | refine Gr (h0 _ _) rfl rfl rfl ?_ | refine Ag (hp0) (fun _ => ?_) (fun _ => ?_) | refine Ad (hp0) ?_ | refine qQb ?_ | refine Ab (fun _ => ?_) (fun _ => ?_))
    refine w_it (by omega) ?_
    repeat' (first | refine qS ?_ | refine qN ?_ | refine Gr (h1 _ _) rfl rfl rfl ?_ | refine Ag (hp1) (fun _ => ?_) (fun _ => ?_) | refine Ad (hp1) ?_ | refine qQb ?_ | refine Ab (fun _ => ?_) (fun _ => ?_))
    refine w_it (by omega) ?_
    repeat' (first | refine qS ?_ | refine qN ?_ | refine qQb ?_ | refine Ab (fun _ => ?_) (fun _ => ?_))
    exact ⟨Or.inr rfl, .tup [Sup.av ⟨bg, bb, br, bz, bf⟩, .int .i64 1, .int .i64 0], by kernel_rfl, by kernel_rfl⟩
   ·rw [if_neg (fun h => hg h.2)]
    repeat' (first | refine qS ?_ | refine qN ?_ | refine Ag (hck) (fun _ => ?_) (fun _ => ?_) | refine Ad (hck) ?_ | refine qQb ?_ | refine Ab (fun _ => ?_) (fun _ => ?_))
    refine Ib (w_it (by omega) ?_)
    repeat' (first | refine qS ?_ | refine qN ?_ | refine Gr (h0 _ _) rfl rfl rfl ?_ | refine Ag (hp0) (fun _ => ?_) (fun _ => ?_) | refine Ad (hp0) ?_ | refine qQb ?_ | refine Ab (fun _ => ?_) (fun _ => ?_))
    refine w_it (by omega) ?_
    repeat' (first | refine qS ?_ | refine qN ?_ | refine Gr (h1 _ _) rfl rfl rfl ?_ | refine Ag (hp1) (fun _ => ?_) (fun _ => ?_) | refine Ad (hp1) ?_ | refine qQb ?_ | refine Ab (fun _ => ?_) (fun _ => ?_))
    refine w_it (by omega) ?_
    repeat' (first | refine qS ?_ | refine qN ?_ | refine qQb ?_ | refine Ab (fun _ => ?_) (fun _ => ?_))
    exact ⟨Or.inr rfl, .tup [Sup.av ⟨ag, ab, ar, az, af⟩, .int .i64 0, .int .i64 0], by kernel_rfl, by kernel_rfl⟩
  ·rw [if_neg (fun h => hB h.1)]
   repeat' (first | refine qS ?_ | refine qN ?_ | refine Ag (hck) (fun _ => ?_) (fun _ => ?_) | refine Ad (hck) ?_ | refine qQb ?_ | refine Ab (fun _ => ?_) (fun _ => ?_))
   refine Ib (w_it (by omega) ?_)
   repeat' (first | refine qS ?_ | refine qN ?_ | refine Gr (h0 _ _) rfl rfl rfl ?_ | refine Ag (hp0) (fun _ => ?_) (fun _ => ?_) | refine Ad (hp0) ?_ | refine qQb ?_ | refine Ab (fun _ => ?_) (fun _ => ?_))
   refine w_it (by omega) ?_
   repeat' (first | refine qS ?_ | refine qN ?_ | refine Gr (h1 _ _) rfl rfl rfl ?_ | refine Ag (hp1) (fun _ => ?_) (fun _ => ?_) | refine Ad (hp1) ?_ | refine qQb ?_ | refine Ab (fun _ => ?_) (fun _ => ?_))
   all_goals first
    | (exfalso; simp only [cmpP] at *; omega)
    | skip
   all_goals refine w_it (by omega) ?_
   all_goals
    repeat' (first | refine qS ?_ | refine qN ?_ | refine qQb ?_ | refine Ab (fun _ => ?_) (fun _ => ?_))
   all_goals exact ⟨Or.inr rfl, .tup [Sup.av ⟨ag, ab, ar, az, af⟩, .int .i64 0, .int .i64 0], by kernel_rfl, by kernel_rfl⟩
 ·rw [if_neg hA]
  by_cases hB : be = 0 ∧ bb = nb l
  ·rw [if_pos hB]
   repeat' (first | refine qS ?_ | refine qN ?_ | refine Ag (hck) (fun _ => ?_) (fun _ => ?_) | refine Ad (hck) ?_ | refine qQb ?_ | refine Ab (fun _ => ?_) (fun _ => ?_))
   refine Ib (w_it (by omega) ?_)
   repeat' (first | refine qS ?_ | refine qN ?_ | refine Gr (h0 _ _) rfl rfl rfl ?_ | refine Ag (hp0) (fun _ => ?_) (fun _ => ?_) | refine Ad (hp0) ?_ | refine qQb ?_ | refine Ab (fun _ => ?_) (fun _ => ?_))
   all_goals first
    | (exfalso; simp only [cmpP] at *; omega)
    | skip
   all_goals refine w_it (by omega) ?_
   all_goals
    repeat' (first | refine qS ?_ | refine qN ?_ | refine Gr (h1 _ _) rfl rfl rfl ?_ | refine Ag (hp1) (fun _ => ?_) (fun _ => ?_) | refine Ad (hp1) ?_ | refine qQb ?_ | refine Ab (fun _ => ?_) (fun _ => ?_))
   all_goals refine w_it (by omega) ?_
   all_goals
    repeat' (first | refine qS ?_ | refine qN ?_ | refine qQb ?_ | refine Ab (fun _ => ?_) (fun _ => ?_))
   all_goals exact ⟨Or.inr rfl, .tup [Sup.av ⟨bg, bb, br, bz, bf⟩, .int .i64 1, .int .i64 0], by kernel_rfl, by kernel_rfl⟩
  ·rw [if_neg hB]
   repeat' (first | refine qS ?_ | refine qN ?_ | refine Ag (hck) (fun _ => ?_) (fun _ => ?_) | refine Ad (hck) ?_ | refine qQb ?_ | refine Ab (fun _ => ?_) (fun _ => ?_))
   refine Ib (w_it (by omega) ?_)
   repeat' (first | refine qS ?_ | refine qN ?_ | refine Gr (h0 _ _) rfl rfl rfl ?_ | refine Ag (hp0) (fun _ => ?_) (fun _ => ?_) | refine Ad (hp0) ?_ | refine qQb ?_ | refine Ab (fun _ => ?_) (fun _ => ?_))
   all_goals first
    | (exfalso; simp only [cmpP] at *; omega)
    | skip
   all_goals refine w_it (by omega) ?_
   all_goals
    repeat' (first | refine qS ?_ | refine qN ?_ | refine Gr (h1 _ _) rfl rfl rfl ?_ | refine Ag (hp1) (fun _ => ?_) (fun _ => ?_) | refine Ad (hp1) ?_ | refine qQb ?_ | refine Ab (fun _ => ?_) (fun _ => ?_))
   all_goals first
    | (exfalso; simp only [cmpP] at *; omega)
    | skip
   all_goals refine w_it (by omega) ?_
   all_goals
    repeat' (first | refine qS ?_ | refine qN ?_ | refine qQb ?_ | refine Ab (fun _ => ?_) (fun _ => ?_))
   all_goals exact ⟨Or.inr rfl, .tup [sup0.av, .int .i64 0, .int .i64 8], by kernel_rfl, by kernel_rfl⟩
def atP (l : List UInt8) (n at0 level : Nat) : Nod × Bool :=
 if at0 < 2 ∨ n ≤ at0 then (nod0, false) else ((Er (blk l at0)).1, decide ((Er (blk l at0)).2 = 0 ∧ (Er (blk l at0)).1.level = level))
theorem Ma (b : List UInt8) : (Er b).1.ptr.length = 8 := by
 unfold Er
 split
 ·rfl
 split
 ·rename_i h0 _
  obtain ⟨ns, hns, hlen⟩ := Ux (Cw.1 h0)
  rw [hns]
  simp [xE, hlen]
  rfl
 ·rfl
theorem bU (k : Nat) (hk : 1000031 ≤ k) (t f : Bool) (l : List UInt8) (n at0 level : Nat) (hl : l.length < 1000000) (hn : 64 * n ≤ l.length) : FnV (CF k) mC [.islc t f 1 (BL l), .int .i64 n, .int .i64 at0, .int .i64 level] (.tup [(atP l n at0 level).1.av, .bool (atP l n at0 level).2]) := by
 refine fnk (by omega) xZ rfl ?_
 unfold nP atP
 by_cases h : at0 < 2 ∨ n ≤ at0
 ·rw [if_pos h]
  repeat' (first | refine qS ?_ | refine qN ?_ | refine qQb ?_ | refine Ab (fun _ => ?_) (fun _ => ?_))
  all_goals first
   | exact ⟨Or.inr rfl, .tup [nod0.av, .bool false], by kernel_rfl, by kernel_rfl⟩
   | (exfalso; simp only [cmpP] at *; omega)
 ·rw [if_neg h]
  have hof := Qn (k - 1) (by omega) t f l at0 hl (by omega)
  have hp := Yn (k - 1) (by omega) t (f && decide (64 * (at0 + 1) = l.length)) (blk l at0) (by rw [Yf (by omega)]; omega)
  have hpl := Ma (blk l at0)
  obtain ⟨⟨⟨v, ps⟩, e⟩, hx⟩ : ∃ x, x = Er (blk l at0) := ⟨_, rfl⟩
  rw [← hx] at hp hpl ⊢
  simp only at hpl ⊢
  match ps, hpl with
  | [a1, a2, a3, a4, a5, a6, a7, a8], _ =>
   unfold Nod.av at hp
   simp only at hp
   by_cases he : e = 0 ∧ v = level
   ·rw [Az he]
    repeat' (first
     | refine qS ?_ | refine qN ?_ | refine Gr (hof _ _) rfl rfl rfl ?_ | refine Ru (hl := by kernel_rfl) ?_ | refine Ag (hp) (fun _ => ?_) (fun _ => ?_)
     | refine Ad (hp) ?_ | refine qQb ?_ | refine Ab (fun _ => ?_) (fun _ => ?_))
    exact ⟨Or.inr rfl, .tup [Nod.av ⟨v, [a1, a2, a3, a4, a5, a6, a7, a8]⟩, .bool true], by kernel_rfl, by kernel_rfl⟩
   ·rw [Bo he]
    repeat' (first
     | refine qS ?_ | refine qN ?_ | refine Gr (hof _ _) rfl rfl rfl ?_ | refine Ru (hl := by kernel_rfl) ?_ | refine Ag (hp) (fun _ => ?_) (fun _ => ?_)
     | refine Ad (hp) ?_ | refine qQb ?_ | refine Ab (fun _ => ?_) (fun _ => ?_))
    all_goals first
     | exact ⟨Or.inr rfl, .tup [Nod.av ⟨v, [a1, a2, a3, a4, a5, a6, a7, a8]⟩, .bool false], by kernel_rfl, by kernel_rfl⟩
     | (exfalso; simp only [cmpP] at *; omega)
end Go.Proofs.Ytkaiiopoilpjeaa

