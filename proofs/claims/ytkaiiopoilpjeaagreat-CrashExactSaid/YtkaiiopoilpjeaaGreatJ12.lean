import Derived.Test.YtkaiiopoilpjeaaGreatJ11
set_option linter.unusedSimpArgs false
set_option linter.unusedVariables false
set_option maxRecDepth 10000
set_option maxHeartbeats 16000000
namespace Go.Proofs.YtkaiiopoilpjeaaGreat
open Go.AI
attribute [local irreducible] aops Br Cp Dp aop W WO
def La (c : List Nat) (a : Nat) : Bool := decide (2 ≤ a ∧ c.getD a default = 0)
def Cd (c : List Nat) : List Nat := (List.range c.length).filter (La c)
theorem nM (k : Nat) (hk : 1 ≤ k) (b : Nat) : FnV (CF k) Rz [nav b] (.bool (decide (2147483647 < b))) := by
  unfold nav
  refine fnk (by omega) nL rfl ?_
  unfold Ux
  repeat' (first | refine qS ?_ | refine qN ?_ | refine qQb ?_ | refine Ac (fun _ => ?_) (fun _ => ?_))
  all_goals first
    | (refine ⟨Or.inr rfl, _, rfl, ?_⟩
       simp only [cmpP] at *
       show AV.bool _ = AV.bool _
       congr 1
       first
         | exact (As (by omega)).symm
         | exact (Bb (by omega)).symm)
    | (exfalso; simp only [cmpP] at *; omega)
theorem uA (k : Nat) (hk : 1000020 ≤ k) (t f : Bool) (c : List Nat) (hl : c.length ≤ 4096) (hc : ∀ v ∈ c, v < 1000000) : FnV (CF k) cW [.islc t f 1 (NL c)] (.bool true) := by
 have hcf := Hu (k - 1) (by omega) t f c Rz [] (fun b => decide (2147483647 < b)) (by omega) (fun _ => rfl) (fun _ _ => rfl) (fun i hi => nM (k - 3) (by omega) _)
 have hany : (c.any fun b => decide (2147483647 < b)) = false := by
  rw [Vq]
  intro v hv
  have := hc v hv
  simp; omega
 rw [hany] at hcf
 refine fnk (by omega) uM rfl ?_
 unfold Zv
 repeat' (first | refine qS ?_ | refine qN ?_ | refine Bh (n := c.length) rfl (Bm _) rfl rfl ?_ | refine Ae hcf ?_ | refine qQb ?_ | refine Ac (fun _ => ?_) (fun _ => ?_))
 exact ⟨Or.inr rfl, _, rfl, rfl⟩
theorem gK (k : Nat) (hk : 1000000 < k) (t f : Bool) (c : List Nat) (hl : c.length ≤ 4096) (hc : ∀ v ∈ c, v < 1000000) : FnV (CF k) iO [.islc t f 1 (NL c)] (.islc false false 1 (NL (Cd c))) := by
 refine fnk (by omega) xX rfl ?_
 unfold eQ
 repeat' (first | refine qS ?_ | refine qN ?_ | refine Bh (n := c.length) rfl (Bm _) rfl rfl ?_ | refine qQb ?_ | refine Ac (fun _ => ?_) (fun _ => ?_) | refine Bl fun _ => ?_)
 refine W.mono (Q := fun ex T' H' => ex = .exit 0 ∧ H' 1 = ⟨1, false, .row 1 (NL (Cd c))⟩ ∧ T' 3 = .slc 1 1 (Cd c).length 1 0 (Cd c).length none) ?_ ?_
 ·refine Fj c.length (fun i T' H' => H' 1 = ⟨1, false, .row 1 (NL ((List.range i).filter (La c)))⟩ ∧ Has T' [(3, .slc 1 1 ((List.range i).filter (La c)).length 1 0 ((List.range i).filter (La c)).length none), (6, .islc t f 1 (NL c)), (7, .int .i64 c.length), (8, .int .i64 (i : Nat))])
   ⟨rfl, rfl, rfl, rfl, rfl, trivial⟩ (by omega) ?_
  rintro i T H hi ⟨g1, hT⟩
  rw [hT.eq]
  simp only [over]
  by_cases hil : i < c.length
  ·obtain ⟨v, hv⟩ : ∃ v, v = c.getD i default := ⟨_, rfl⟩
   have hvm : v < 1000000 := hc v (by rw [hv]; simp [hil])
   have hst : (List.range (i + 1)).filter (La c) = (List.range i).filter (La c) ++ (if La c i = true then [i] else []) := by
    rw [Kt, Gs]
    congr 1
    simp only [Eh, List.filter_nil]
   have hfl : ((List.range i).filter (La c)).length ≤ i := by
    have := Ej (La c) (List.range i)
    simpa using this
   obtain ⟨q, hq⟩ : ∃ q, q = (List.range i).filter (La c) := ⟨_, rfl⟩
   rw [← hq] at g1 hst hfl ⊢
   by_cases h2 : 2 ≤ i
   ·by_cases h0 : v = 0
    ·have hfr : La c i = true := by unfold La; exact As ⟨h2, by rw [← hv]; exact h0⟩
     rw [if_pos hfr] at hst
     have hv0 : (v : Int) = 0 := by omega
     repeat' (first
      | refine qS ?_ | refine qN ?_ | refine Ll (enc := nav) v rfl rfl (by omega) (by omega) hv.symm rfl rfl ?_
      | refine Lm rfl rfl rfl (by exact g1) (Bm q) rfl (by omega) rfl rfl (fun _ => ?_) | refine qQb ?_ | refine Ac (fun _ => ?_) (fun _ => ?_) | refine Bl fun _ => ?_)
     refine ⟨hil, ?_, ?_, rfl, rfl, by show AV.int _ _ = AV.int _ _; congr 1, trivial⟩
     ·rw [hst, iV]; rfl
     ·rw [hst, An]; rfl
    ·have hfr : La c i = false := by unfold La; exact Bb (fun h => h0 (by rw [hv]; exact h.2))
     rw [if_neg (by rw [hfr]; decide), Bv] at hst
     have hv0 : (v : Int) ≠ 0 := by omega
     repeat' (first | refine qS ?_ | refine qN ?_ | refine Ll (enc := nav) v rfl rfl (by omega) (by omega) hv.symm rfl rfl ?_ | refine qQb ?_ | refine Ac (fun _ => ?_) (fun _ => ?_) | refine Bl fun _ => ?_)
     exact ⟨hil, by rw [hst]; exact g1, by rw [hst]; rfl, rfl, rfl, by show AV.int _ _ = AV.int _ _; congr 1, trivial⟩
   ·have hfr : La c i = false := by unfold La; exact Bb (fun h => h2 h.1)
    rw [if_neg (by rw [hfr]; decide), Bv] at hst
    repeat' (first | refine qS ?_ | refine qN ?_ | refine Ll (enc := nav) v rfl rfl (by omega) (by omega) hv.symm rfl rfl ?_ | refine qQb ?_ | refine Ac (fun _ => ?_) (fun _ => ?_) | refine Bl fun _ => ?_)
    exact ⟨hil, by rw [hst]; exact g1, by rw [hst]; rfl, rfl, rfl, by show AV.int _ _ = AV.int _ _; congr 1, trivial⟩
  ·have hin : i = c.length := by omega
   subst hin
   repeat' (first | refine qS ?_ | refine qN ?_ | refine qQb ?_ | refine Ac (fun _ => ?_) (fun _ => ?_) | refine Bl fun _ => ?_)
   exact ⟨rfl, g1, rfl⟩
 rintro ex T2 H2 ⟨rfl, g1, h3⟩
 rw [Has.eq (T := T2) (ps := [(3, _)]) ⟨h3, trivial⟩]
 simp only [over]
 show W _ _
 repeat' (first | refine qS ?_ | refine qN ?_ | refine qQb ?_ | refine Ac (fun _ => ?_) (fun _ => ?_) | refine Bl fun _ => ?_)
 exact ⟨Or.inr rfl, .slc 1 1 (Cd c).length 1 0 (Cd c).length none, rfl, Gb (out := true) g1 rfl 4⟩
theorem Aak (k : Nat) (hk : 1000030 ≤ k) (t f : Bool) (c : List Nat) (hl : c.length ≤ 4096) (hc : ∀ v ∈ c, v < 1000000) : FnV (CF k) iY [.islc t f 1 (NL c)] (.tup [.islc false false 1 (NL (Cd c)), .int .i64 0]) := by
 have h1 := uA (k - 1) (by omega) t f c hl hc
 have h2 := gK (k - 1) (by omega) t f c hl hc
 refine fnk (by omega) yP rfl ?_
 unfold eG
 repeat' (first | refine qS ?_ | refine Ae h1 ?_ | refine Ae h2 ?_ | refine qQb ?_ | fail)
 exact ⟨Or.inr rfl, _, rfl, rfl⟩
theorem nE (k : Nat) (hk : 1000080 ≤ k) (f : Bool) (l : List UInt8) (hd : Dev l) (x : Img) (hx : x.fit l) : FnV (CF k) mP [.islc false f 1 (BL l), .iptr false (x.cs false f l)] (.islc false false 1 (NL (Cd (Ay l x)))) := by
 have hn := hd.nb
 obtain ⟨hcl, hcm⟩ := Oe hx
 have h1 := wY (k - 1) (by omega) f l hd x hx
 have h2 := Aak (k - 1) (by omega) false false (Ay l x) (by omega) hcm
 refine fnk (by omega) Acn rfl ?_
 unfold kC
 repeat' (first | refine qS ?_ | refine Ae h1 ?_ | refine Ae h2 ?_ | refine qQb ?_ | fail)
 exact ⟨Or.inr rfl, _, rfl, rfl⟩
end Go.Proofs.YtkaiiopoilpjeaaGreat

