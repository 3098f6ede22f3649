import Derived.Test.YtkaiiopoilpjeaaJ11
set_option linter.unusedSimpArgs false
set_option linter.unusedVariables false
set_option maxRecDepth 10000
set_option maxHeartbeats 16000000
namespace Go.Proofs.Ytkaiiopoilpjeaa
open Go.AI
attribute [local irreducible] aops Bb Cj Dm aop W WO
def Ir (c : List Nat) (a : Nat) : Bool := decide (2 ≤ a ∧ c.getD a default = 0)
def Fm (c : List Nat) : List Nat := (List.range c.length).filter (Ir c)
theorem dL (k : Nat) (hk : 1 ≤ k) (b : Nat) : FnV (CF k) Nx [nav b] (.bool (decide (2147483647 < b))) := by
  unfold nav
  refine fnk (by omega) dJ rfl ?_
  unfold Py
  repeat' (first | refine qS ?_ | refine qN ?_ | refine qQb ?_ | refine Ab (fun _ => ?_) (fun _ => ?_))
  all_goals first
    | (refine ⟨Or.inr rfl, _, rfl, ?_⟩
       simp only [cmpP] at *
       show AV.bool _ = AV.bool _
       congr 1
       first
         | exact (Az (by omega)).symm
         | exact (Bo (by omega)).symm)
    | (exfalso; simp only [cmpP] at *; omega)
theorem kG (k : Nat) (hk : 1000020 ≤ k) (t f : Bool) (c : List Nat) (hl : c.length ≤ 4096) (hc : ∀ v ∈ c, v < 1000000) : FnV (CF k) Vy [.islc t f 1 (NL c)] (.bool true) := by
 have hcf := Kl (k - 1) (by omega) t f c Nx [] (fun b => decide (2147483647 < b)) (by omega) (fun _ => rfl) (fun _ _ => rfl) (fun i hi => dL (k - 3) (by omega) _)
 have hany : (c.any fun b => decide (2147483647 < b)) = false := by
  rw [List.any_eq_false]
  intro v hv
  have := hc v hv
  simp; omega
 rw [hany] at hcf
 refine fnk (by omega) jO rfl ?_
 unfold Sx
 repeat' (first | refine qS ?_ | refine qN ?_ | refine Ba (n := c.length) rfl (Be _) rfl rfl ?_ | refine Ad hcf ?_ | refine qQb ?_ | refine Ab (fun _ => ?_) (fun _ => ?_))
 exact ⟨Or.inr rfl, _, rfl, rfl⟩
theorem oL (k : Nat) (hk : 1000000 < k) (t f : Bool) (c : List Nat) (hl : c.length ≤ 4096) (hc : ∀ v ∈ c, v < 1000000) : FnV (CF k) Zi [.islc t f 1 (NL c)] (.islc false false 1 (NL (Fm c))) := by
 refine fnk (by omega) oD rfl ?_
 unfold Wv
 repeat' (first | refine qS ?_ | refine qN ?_ | refine Ba (n := c.length) rfl (Be _) rfl rfl ?_ | refine qQb ?_ | refine Ab (fun _ => ?_) (fun _ => ?_) | refine Ax fun _ => ?_)
 refine W.mono (Q := fun ex T' H' => ex = .exit 0 ∧ H' 1 = ⟨1, false, .row 1 (NL (Fm c))⟩ ∧ T' 3 = .slc 1 1 (Fm c).length 1 0 (Fm c).length none) ?_ ?_
 ·refine Fx c.length (fun i T' H' => H' 1 = ⟨1, false, .row 1 (NL ((List.range i).filter (Ir c)))⟩ ∧ Has T' [(3, .slc 1 1 ((List.range i).filter (Ir c)).length 1 0 ((List.range i).filter (Ir c)).length none), (6, .islc t f 1 (NL c)), (7, .int .i64 c.length), (8, .int .i64 (i : Nat))])
   ⟨rfl, rfl, rfl, rfl, rfl, trivial⟩ (by omega) ?_
  rintro i T H hi ⟨g1, hT⟩
  rw [hT.eq]
  simp only [over]
  by_cases hil : i < c.length
  ·obtain ⟨v, hv⟩ : ∃ v, v = c.getD i default := ⟨_, rfl⟩
   have hvm : v < 1000000 := hc v (by rw [hv]; simp [hil])
   have hst : (List.range (i + 1)).filter (Ir c) = (List.range i).filter (Ir c) ++ (if Ir c i = true then [i] else []) := by
    rw [jE, Gd]
    congr 1
    simp only [Gg, List.filter_nil]
   have hfl : ((List.range i).filter (Ir c)).length ≤ i := by
    have := Hb (Ir c) (List.range i)
    simpa using this
   obtain ⟨q, hq⟩ : ∃ q, q = (List.range i).filter (Ir c) := ⟨_, rfl⟩
   rw [← hq] at g1 hst hfl ⊢
   by_cases h2 : 2 ≤ i
   ·by_cases h0 : v = 0
    ·have hfr : Ir c i = true := by unfold Ir; exact Az ⟨h2, by rw [← hv]; exact h0⟩
     rw [if_pos hfr] at hst
     have hv0 : (v : Int) = 0 := by omega
     repeat' (first
      | refine qS ?_ | refine qN ?_ | refine Iu (enc := nav) v rfl rfl (by omega) (by omega) hv.symm rfl rfl ?_
      | refine It rfl rfl rfl (by exact g1) (Be q) rfl (by omega) rfl rfl (fun _ => ?_) | refine qQb ?_ | refine Ab (fun _ => ?_) (fun _ => ?_) | refine Ax fun _ => ?_)
     refine ⟨hil, ?_, ?_, rfl, rfl, by show AV.int _ _ = AV.int _ _; congr 1, trivial⟩
     ·rw [hst, Zt]; rfl
     ·rw [hst, Ar]; rfl
    ·have hfr : Ir c i = false := by unfold Ir; exact Bo (fun h => h0 (by rw [hv]; exact h.2))
     rw [if_neg (by rw [hfr]; decide), Bt] at hst
     have hv0 : (v : Int) ≠ 0 := by omega
     repeat' (first | refine qS ?_ | refine qN ?_ | refine Iu (enc := nav) v rfl rfl (by omega) (by omega) hv.symm rfl rfl ?_ | refine qQb ?_ | refine Ab (fun _ => ?_) (fun _ => ?_) | refine Ax fun _ => ?_)
     exact ⟨hil, by rw [hst]; exact g1, by rw [hst]; rfl, rfl, rfl, by show AV.int _ _ = AV.int _ _; congr 1, trivial⟩
   ·have hfr : Ir c i = false := by unfold Ir; exact Bo (fun h => h2 h.1)
    rw [if_neg (by rw [hfr]; decide), Bt] at hst
    repeat' (first | refine qS ?_ | refine qN ?_ | refine Iu (enc := nav) v rfl rfl (by omega) (by omega) hv.symm rfl rfl ?_ | refine qQb ?_ | refine Ab (fun _ => ?_) (fun _ => ?_) | refine Ax fun _ => ?_)
    exact ⟨hil, by rw [hst]; exact g1, by rw [hst]; rfl, rfl, rfl, by show AV.int _ _ = AV.int _ _; congr 1, trivial⟩
  ·have hin : i = c.length := by omega
   subst hin
   repeat' (first | refine qS ?_ | refine qN ?_ | refine qQb ?_ | refine Ab (fun _ => ?_) (fun _ => ?_) | refine Ax fun _ => ?_)
   exact ⟨rfl, g1, rfl⟩
 rintro ex T2 H2 ⟨rfl, g1, h3⟩
 rw [Has.eq (T := T2) (ps := [(3, _)]) ⟨h3, trivial⟩]
 simp only [over]
 show W _ _
 repeat' (first | refine qS ?_ | refine qN ?_ | refine qQb ?_ | refine Ab (fun _ => ?_) (fun _ => ?_) | refine Ax fun _ => ?_)
 exact ⟨Or.inr rfl, .slc 1 1 (Fm c).length 1 0 (Fm c).length none, rfl, Ge (out := true) g1 rfl 4⟩
theorem mQ (k : Nat) (hk : 1000030 ≤ k) (t f : Bool) (c : List Nat) (hl : c.length ≤ 4096) (hc : ∀ v ∈ c, v < 1000000) : FnV (CF k) Zp [.islc t f 1 (NL c)] (.tup [.islc false false 1 (NL (Fm c)), .int .i64 0]) := by
 have h1 := kG (k - 1) (by omega) t f c hl hc
 have h2 := oL (k - 1) (by omega) t f c hl hc
 refine fnk (by omega) mZ rfl ?_
 unfold Xg
 repeat' (first | refine qS ?_ | refine Ad h1 ?_ | refine Ad h2 ?_ | refine qQb ?_ | fail)
 exact ⟨Or.inr rfl, _, rfl, rfl⟩
theorem rU (k : Nat) (hk : 1000080 ≤ k) (f : Bool) (l : List UInt8) (hd : Dev l) (x : Img) (hx : x.fit l) : FnV (CF k) cM [.islc false f 1 (BL l), .iptr false (x.cs false f l)] (.islc false false 1 (NL (Fm (Dn l x)))) := by
 have hn := hd.nb
 obtain ⟨hcl, hcm⟩ := Rv hx
 have h1 := yB (k - 1) (by omega) f l hd x hx
 have h2 := mQ (k - 1) (by omega) false false (Dn l x) (by omega) hcm
 refine fnk (by omega) qC rfl ?_
 unfold bF
 repeat' (first | refine qS ?_ | refine Ad h1 ?_ | refine Ad h2 ?_ | refine qQb ?_ | fail)
 exact ⟨Or.inr rfl, _, rfl, rfl⟩
end Go.Proofs.Ytkaiiopoilpjeaa

