import Derived.Test.YtkaiiopoilpjeaaGreatK6
set_option linter.unusedSimpArgs false
set_option linter.unusedVariables false
set_option maxRecDepth 10000
set_option maxHeartbeats 16000000
namespace Go.Proofs.YtkaiiopoilpjeaaGreat
open Go.AI
attribute [local irreducible] aops aexec acall aiter aop W WO
theorem r_Block (k : Nat) (hk : 1 ≤ k) (t f : Bool) (l : List UInt8) (a : Nat) (hl : l.length < 1000000) (ha : 64 * (a + 1) ≤ l.length) (base : Nat) (H : Heap) :
  CF k n_ref01_Block base [.islc t f 1 (BL l), .int .i64 a] H = some (.islc t (f && decide (64 * (a + 1) = l.length)) 1 (BL (blk l a)), H) := by
 have h : ∃ u H', CF k n_ref01_Block base [.islc t f 1 (BL l), .int .i64 a] H = some (u, H') ∧ (u = .islc t (f && decide (64 * (a + 1) = l.length)) 1 (BL (blk l a)) ∧ H' = H) := by
  refine fni (by omega) B_ref01_Block rfl ?_
  unfold ref01_Block
  repeat' (first | refine qQb ?_ | fail)
  have e : (l.drop ((a : Int) * 64).toNat).take (((a : Int) * 64 + 64).toNat - ((a : Int) * 64).toNat) = blk l a := by
   unfold blk
   rw [show ((a : Int) * 64).toNat = 64 * a by omega, show ((a : Int) * 64 + 64).toNat - 64 * a = 64 by omega]
  have e2 : ((a : Int) * 64 + 64).toNat = 64 * (a + 1) := by omega
  refine ⟨Or.inr rfl, _, rfl, ?_, rfl⟩
  show AV.islc t (f && decide (((a : Int) * 64 + 64).toNat = l.length)) 1 (BL ((l.drop ((a : Int) * 64).toNat).take (((a : Int) * 64 + 64).toNat - ((a : Int) * 64).toNat))) = _
  rw [e, e2]
 obtain ⟨u, H', h1, rfl, rfl⟩ := h
 exact h1
theorem r_BlocksD (k : Nat) (hk : 2 ≤ k) (t f : Bool) (l : List UInt8) (hd : Dev l) : FnV (CF k) n_ref01_Blocks [.islc t f 1 (BL l)] (.tup [.int .i64 (nb l : Nat), .bool true]) := by
 have := r_Blocks k hk t f l hd.1
 rw [decide_eq_true hd.2] at this
 exact this
def rpickAv (l : List UInt8) : AV := match pickP l with
 | some (s, i) => .tup [s.av, .int .i64 (i : Nat), .bool true]
 | none => .tup [sup0.av, .int .i64 0, .bool false]
theorem r_Pick (k : Nat) (hk : 1000060 ≤ k) (t f : Bool) (l : List UInt8) (hd : Dev l) : FnV (CF k) n_ref01_Pick [.islc t f 1 (BL l)] (rpickAv l) := by
 have hn := hd.nb
 have hck := r_BlocksD (k - 1) (by omega) t f l hd
 have hp : ∀ f' i, i < nb l → FnV (CF (k - 1)) n_ref01_ParseSuper [.islc t f' 1 (BL (blk l i))] (.tup [(parseSup (blk l i)).1.av, .int .i64 (parseSup (blk l i)).2]) := fun f' i hi => r_ParseSuper (k - 1) (by omega) t f' (blk l i) (by rw [blk_len (hd.le hi)]; omega)
 have h0 := r_Block (k - 1) (by omega) t f l 0 hd.1 (hd.le (by omega))
 have h1 := r_Block (k - 1) (by omega) t f l 1 hd.1 (hd.le (by omega))
 have hp0 := hp (f && decide (64 * (0 + 1) = l.length)) 0 (by omega)
 have hp1 := hp (f && decide (64 * (1 + 1) = l.length)) 1 (by omega)
 unfold rpickAv pickP
 obtain ⟨a, ha⟩ : ∃ a, a = parseSup (blk l 0) := ⟨_, rfl⟩
 obtain ⟨b, hb⟩ : ∃ b, b = parseSup (blk l 1) := ⟨_, rfl⟩
 rw [← ha] at hp0 ⊢
 rw [← hb] at hp1 ⊢
 obtain ⟨⟨ag, ab, ar, az, af⟩, ae⟩ := a
 obtain ⟨⟨bg, bb, br, bz, bf⟩, be⟩ := b
 unfold Sup.av at hp0 hp1
 unfold pick2
 simp only at hp0 hp1 ⊢
 clear ha hb hp
 obtain ⟨X, hX⟩ : ∃ X, X = (if ae = 0 ∧ ab = nb l then (if (be = 0 ∧ bb = nb l) ∧ ag < bg then some ((⟨bg, bb, br, bz, bf⟩ : Sup), 1) else some ((⟨ag, ab, ar, az, af⟩ : Sup), 0)) else if be = 0 ∧ bb = nb l then some ((⟨bg, bb, br, bz, bf⟩ : Sup), 1) else none) := ⟨_, rfl⟩
 rw [← hX]
 have hA : (ae = 0 ∧ ab = nb l) → ¬ ((be = 0 ∧ bb = nb l) ∧ ag < bg) → X = some (⟨ag, ab, ar, az, af⟩, 0) := fun h1 h2 => by rw [hX, if_pos h1, if_neg h2]
 have hB : (be = 0 ∧ bb = nb l) → (¬ (ae = 0 ∧ ab = nb l) ∨ ag < bg) → X = some (⟨bg, bb, br, bz, bf⟩, 1) := fun h1 h2 => by
  rw [hX]
  by_cases h3 : ae = 0 ∧ ab = nb l
  ·rw [if_pos h3, if_pos ⟨h1, h2.resolve_left (fun h => h h3)⟩]
  ·rw [if_neg h3, if_pos h1]
 have hC : ¬ (ae = 0 ∧ ab = nb l) → ¬ (be = 0 ∧ bb = nb l) → X = none := fun h1 h2 => by rw [hX, if_neg h1, if_neg h2]
 clear hX
 refine fnk (by omega) B_ref01_Pick rfl ?_
 unfold ref01_Pick
 repeat' (first
  | refine qS ?_ | refine qN ?_ | refine wo_inl (h0 _ _) rfl rfl rfl ?_ | refine wo_inl (h1 _ _) rfl rfl rfl ?_ | refine q_callB (hck) (fun _ => ?_) (fun _ => ?_) | refine q_call (hck) ?_
  | refine q_callB (hp0) (fun _ => ?_) (fun _ => ?_) | refine q_call (hp0) ?_ | refine q_callB (hp1) (fun _ => ?_) (fun _ => ?_) | refine q_call (hp1) ?_ | refine qQb ?_
  | refine q_cmp2 (fun _ => ?_) (fun _ => ?_))
 all_goals first
  | (rw [hA (by omega) (by omega)]; exact ⟨Or.inr rfl, .tup [Sup.av ⟨ag, ab, ar, az, af⟩, .int .i64 (0 : Nat), .bool true], by kernel_rfl, by kernel_rfl⟩)
  | (rw [hB (by omega) (by omega)]; exact ⟨Or.inr rfl, .tup [Sup.av ⟨bg, bb, br, bz, bf⟩, .int .i64 (1 : Nat), .bool true], by kernel_rfl, by kernel_rfl⟩)
  | (rw [hC (by omega) (by omega)]; exact ⟨Or.inr rfl, .tup [sup0.av, .int .i64 (0 : Nat), .bool false], by kernel_rfl, by kernel_rfl⟩)
  | (exfalso; omega)
def rrecsAv (c : CS) : AV := if c.bad = 0 then .tup [.islc false false 8 (c.l.map Rec.av), .islc false false 1 (NL c.blocks), .int .i64 0, .bool true] else .tup [.islc false false 8 [], .islc false false 1 [], .int .i64 (c.bad : Nat), .bool false]
theorem rec_ids {k : Nat} {rs : List Rec} {r : Rec} {g4 : Nat} {v0 v5 v8 v10 v11 : AV} {T : Tmps} {H : Heap} (hk : 1000 ≤ k) (hl : rs.length < 900) (g0 : H 0 = ⟨1, false, .row 8 (rs.map Rec.av)⟩) (h4 : H 4 = ⟨g4, false, .row 8 [r.av]⟩)
  (hT : Has T [(0, v0), (4, .slc 0 1 rs.length 8 0 rs.length none), (5, v5), (8, v8), (10, v10), (11, v11), (12, .ptr 4 g4 1 8 0 0), (14, .int .i64 0)]) :
  W (aexec (CF k) noX 0 k (.loop ref10_Records_l0) T H) (fun ex T' H' => (ex = .exit 2 ∧ (rs.any fun x => decide (x.id = r.id)) = false ∧ H' = H ∧ Has T' [(0, v0), (4, .slc 0 1 rs.length 8 0 rs.length none), (5, v5), (8, v8), (10, v10), (11, v11), (12, .ptr 4 g4 1 8 0 0)]) ∨
   (ex = .ret ∧ (rs.any fun x => decide (x.id = r.id)) = true ∧ ∃ g g', H' 7 = ⟨g, false, .row 8 []⟩ ∧ H' 8 = ⟨g', false, .row 1 []⟩ ∧ T' 4 = .slc 7 g 0 8 0 0 none ∧ T' 5 = .slc 8 g' 0 1 0 0 none ∧ T' 6 = v11 ∧ T' 7 = .bool false)) := by
 refine w_for rs.length (fun i T' H' => H' = H ∧ (rs.any fun x => decide (x.id = r.id)) = ((rs.drop i).any fun x => decide (x.id = r.id)) ∧ Has T' [(0, v0), (4, .slc 0 1 rs.length 8 0 rs.length none), (5, v5), (8, v8), (10, v10), (11, v11), (12, .ptr 4 g4 1 8 0 0), (14, .int .i64 (i : Nat))]) ⟨rfl, by simp, hT⟩ (by omega) ?_
 rintro i T H hi ⟨rfl, hgo, hT⟩
 rw [hT.eq]
 simp only [over]
 unfold ref10_Records_l0
 obtain ⟨r1, r2, r3, r4, r5, r6, r7, r8⟩ := r
 unfold Rec.av at h4
 simp only at h4 hgo ⊢
 by_cases hil : i < rs.length
 ·rw [List.drop_eq_getElem_cons hil, List.any_cons] at hgo
  obtain ⟨⟨b1, b2, b3, b4, b5, b6, b7, b8⟩, hr⟩ : ∃ r, r = rs[i] := ⟨_, rfl⟩
  have he2 : (rs.map Rec.av)[0 + (i : Int).toNat]? = some (.agg [.int .i64 b1, .int .i64 b2, .int .i64 b3, .int .i64 b4, .int .i64 b5, .int .i64 b6, .int .i64 b7, .int .i64 b8]) := by
   rw [Nat.zero_add, Int.toNat_natCast, List.getElem?_map, List.getElem?_eq_getElem hil, ← hr]; rfl
  rw [← hr] at hgo
  simp only at hgo
  by_cases hid : b2 = r2
  ·rw [decide_eq_true hid, Bool.true_or] at hgo
   have hid' : (b2 : Int) = r2 := by omega
   repeat' (first
    | refine qS ?_ | refine wo_atR rfl rfl (by exact g0) (by rw [List.length_map]) (by omega) (by omega) (by omega) rfl rfl ?_
    | refine wo_loadR (.int .i64 b2) rfl (by exact g0) (by rw [List.length_map]) (by exact he2) (by exact Nat.le_of_ble_eq_true rfl) rfl rfl rfl ?_
    | refine wo_loadR (.int .i64 r2) rfl (by exact h4) rfl rfl (by exact Nat.le_of_ble_eq_true rfl) rfl rfl rfl ?_ | refine qQb ?_ | refine q_cmp2 (fun _ => ?_) (fun _ => ?_))
   exact .inr ⟨rfl, hgo, (H 7).gen + 1, (H 8).gen + 1, rfl, rfl, rfl, rfl, rfl, rfl⟩
  ·rw [decide_eq_false hid, Bool.false_or] at hgo
   have hid' : (b2 : Int) ≠ r2 := by omega
   repeat' (first
    | refine qS ?_ | refine wo_atR rfl rfl (by exact g0) (by rw [List.length_map]) (by omega) (by omega) (by omega) rfl rfl ?_
    | refine wo_loadR (.int .i64 b2) rfl (by exact g0) (by rw [List.length_map]) (by exact he2) (by exact Nat.le_of_ble_eq_true rfl) rfl rfl rfl ?_
    | refine wo_loadR (.int .i64 r2) rfl (by exact h4) rfl rfl (by exact Nat.le_of_ble_eq_true rfl) rfl rfl rfl ?_ | refine qQb ?_ | refine q_cmp2 (fun _ => ?_) (fun _ => ?_))
   exact ⟨hil, rfl, hgo, rfl, rfl, rfl, rfl, rfl, rfl, rfl, by show AV.int _ _ = AV.int _ _; congr 1, trivial⟩
 ·have hin : i = rs.length := by omega
  rw [List.drop_of_length_le (by omega)] at hgo
  repeat' (first | refine qQb ?_ | refine q_cmp2 (fun _ => ?_) (fun _ => ?_))
  exact .inl ⟨rfl, hgo, rfl, rfl, rfl, rfl, rfl, rfl, rfl, rfl, trivial⟩
end Go.Proofs.YtkaiiopoilpjeaaGreat

