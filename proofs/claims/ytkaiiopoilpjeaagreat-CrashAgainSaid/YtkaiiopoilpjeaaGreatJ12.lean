import Derived.Test.YtkaiiopoilpjeaaGreatJ11
set_option linter.unusedSimpArgs false
set_option linter.unusedVariables false
set_option maxRecDepth 10000
set_option maxHeartbeats 16000000
namespace Go.Proofs.YtkaiiopoilpjeaaGreat
open Go.AI
attribute [local irreducible] aops Bo Cn Dh aop W WO
def Mj (c : List Nat) (a : Nat) : Bool := decide (2 ≤ a ∧ c.getD a default = 0)
def Es (c : List Nat) : List Nat := (List.range c.length).filter (Mj c)
theorem sT (k : Nat) (hk : 1 ≤ k) (b : Nat) : FnV (CF k) Tt [nav b] (.bool (decide (2147483647 < b))) := by
  unfold nav
  refine fnk (by omega) sX rfl ?_
  unfold Xi
  repeat' (first | refine qS ?_ | refine qN ?_ | refine qQb ?_ | refine Ac (fun _ => ?_) (fun _ => ?_))
  all_goals first
    | (refine ⟨Or.inr rfl, _, rfl, ?_⟩
       simp only [cmpP] at *
       show AV.bool _ = AV.bool _
       congr 1
       first
         | exact (Aq (by omega)).symm
         | exact (Ay (by omega)).symm)
    | (exfalso; simp only [cmpP] at *; omega)
theorem zL (k : Nat) (hk : 1000020 ≤ k) (t f : Bool) (c : List Nat) (hl : c.length ≤ 4096) (hc : ∀ v ∈ c, v < 1000000) : FnV (CF k) gM [.islc t f 1 (NL c)] (.bool true) := by
 have hcf := Ic (k - 1) (by omega) t f c Tt [] (fun b => decide (2147483647 < b)) (by omega) (fun _ => rfl) (fun _ _ => rfl) (fun i hi => sT (k - 3) (by omega) _)
 have hany : (c.any fun b => decide (2147483647 < b)) = false := by
  rw [Yc]
  intro v hv
  have := hc v hv
  simp; omega
 rw [hany] at hcf
 refine fnk (by omega) Aaa rfl ?_
 unfold eG
 repeat' (first | refine qS ?_ | refine qN ?_ | refine Ak (n := c.length) rfl (Bm _) rfl rfl ?_ | refine Aa hcf ?_ | refine qQb ?_ | refine Ac (fun _ => ?_) (fun _ => ?_))
 exact ⟨Or.inr rfl, _, rfl, rfl⟩
theorem Ads (k : Nat) (hk : 1000000 < k) (t f : Bool) (c : List Nat) (hl : c.length ≤ 4096) (hc : ∀ v ∈ c, v < 1000000) : FnV (CF k) mG [.islc t f 1 (NL c)] (.islc false false 1 (NL (Es c))) := by
 refine fnk (by omega) Agr rfl ?_
 unfold jE
 repeat' (first | refine qS ?_ | refine qN ?_ | refine Ak (n := c.length) rfl (Bm _) rfl rfl ?_ | refine qQb ?_ | refine Ac (fun _ => ?_) (fun _ => ?_) | refine Bh fun _ => ?_)
 refine W.mono (Q := fun ex T' H' => ex = .exit 0 ∧ H' 1 = ⟨1, false, .row 1 (NL (Es c))⟩ ∧ T' 3 = .slc 1 1 (Es c).length 1 0 (Es c).length none) ?_ ?_
 ·refine Fc c.length (fun i T' H' => H' 1 = ⟨1, false, .row 1 (NL ((List.range i).filter (Mj c)))⟩ ∧ Has T' [(3, .slc 1 1 ((List.range i).filter (Mj c)).length 1 0 ((List.range i).filter (Mj c)).length none), (6, .islc t f 1 (NL c)), (7, .int .i64 c.length), (8, .int .i64 (i : Nat))])
   ⟨rfl, rfl, rfl, rfl, rfl, trivial⟩ (by omega) ?_
  rintro i T H hi ⟨g1, hT⟩
  rw [hT.eq]
  simp only [over]
  by_cases hil : i < c.length
  ·obtain ⟨v, hv⟩ : ∃ v, v = c.getD i default := ⟨_, rfl⟩
   have hvm : v < 1000000 := hc v (by rw [hv]; simp [hil])
   have hst : (List.range (i + 1)).filter (Mj c) = (List.range i).filter (Mj c) ++ (if Mj c i = true then [i] else []) := by
    rw [Lk, Kj]
    congr 1
    simp only [Ej, List.filter_nil]
   have hfl : ((List.range i).filter (Mj c)).length ≤ i := by
    have := Ev (Mj c) (List.range i)
    simpa using this
   obtain ⟨q, hq⟩ : ∃ q, q = (List.range i).filter (Mj c) := ⟨_, rfl⟩
   rw [← hq] at g1 hst hfl ⊢
   by_cases h2 : 2 ≤ i
   ·by_cases h0 : v = 0
    ·have hfr : Mj c i = true := by unfold Mj; exact Aq ⟨h2, by rw [← hv]; exact h0⟩
     rw [if_pos hfr] at hst
     have hv0 : (v : Int) = 0 := by omega
     repeat' (first
      | refine qS ?_ | refine qN ?_ | refine Me (enc := nav) v rfl rfl (by omega) (by omega) hv.symm rfl rfl ?_
      | refine Kw rfl rfl rfl (by exact g1) (Bm q) rfl (by omega) rfl rfl (fun _ => ?_) | refine qQb ?_ | refine Ac (fun _ => ?_) (fun _ => ?_) | refine Bh fun _ => ?_)
     refine ⟨hil, ?_, ?_, rfl, rfl, by show AV.int _ _ = AV.int _ _; congr 1, trivial⟩
     ·rw [hst, fP]; rfl
     ·rw [hst, An]; rfl
    ·have hfr : Mj c i = false := by unfold Mj; exact Ay (fun h => h0 (by rw [hv]; exact h.2))
     rw [if_neg (by rw [hfr]; decide), Bw] at hst
     have hv0 : (v : Int) ≠ 0 := by omega
     repeat' (first | refine qS ?_ | refine qN ?_ | refine Me (enc := nav) v rfl rfl (by omega) (by omega) hv.symm rfl rfl ?_ | refine qQb ?_ | refine Ac (fun _ => ?_) (fun _ => ?_) | refine Bh fun _ => ?_)
     exact ⟨hil, by rw [hst]; exact g1, by rw [hst]; rfl, rfl, rfl, by show AV.int _ _ = AV.int _ _; congr 1, trivial⟩
   ·have hfr : Mj c i = false := by unfold Mj; exact Ay (fun h => h2 h.1)
    rw [if_neg (by rw [hfr]; decide), Bw] at hst
    repeat' (first | refine qS ?_ | refine qN ?_ | refine Me (enc := nav) v rfl rfl (by omega) (by omega) hv.symm rfl rfl ?_ | refine qQb ?_ | refine Ac (fun _ => ?_) (fun _ => ?_) | refine Bh fun _ => ?_)
    exact ⟨hil, by rw [hst]; exact g1, by rw [hst]; rfl, rfl, rfl, by show AV.int _ _ = AV.int _ _; congr 1, trivial⟩
  ·have hin : i = c.length := by omega
   subst hin
   repeat' (first | refine qS ?_ | refine qN ?_ | refine qQb ?_ | refine Ac (fun _ => ?_) (fun _ => ?_) | refine Bh fun _ => ?_)
   exact ⟨rfl, g1, rfl⟩
 rintro ex T2 H2 ⟨rfl, g1, h3⟩
 rw [Has.eq (T := T2) (ps := [(3, _)]) ⟨h3, trivial⟩]
 simp only [over]
 show W _ _
 repeat' (first | refine qS ?_ | refine qN ?_ | refine qQb ?_ | refine Ac (fun _ => ?_) (fun _ => ?_) | refine Bh fun _ => ?_)
 exact ⟨Or.inr rfl, .slc 1 1 (Es c).length 1 0 (Es c).length none, rfl, Fz (out := true) g1 rfl 4⟩
theorem Aeg (k : Nat) (hk : 1000030 ≤ k) (t f : Bool) (c : List Nat) (hl : c.length ≤ 4096) (hc : ∀ v ∈ c, v < 1000000) : FnV (CF k) kY [.islc t f 1 (NL c)] (.tup [.islc false false 1 (NL (Es c)), .int .i64 0]) := by
 have h1 := zL (k - 1) (by omega) t f c hl hc
 have h2 := Ads (k - 1) (by omega) t f c hl hc
 refine fnk (by omega) Adp rfl ?_
 unfold jQ
 repeat' (first | refine qS ?_ | refine Aa h1 ?_ | refine Aa h2 ?_ | refine qQb ?_ | fail)
 exact ⟨Or.inr rfl, _, rfl, rfl⟩
theorem rD (k : Nat) (hk : 1000080 ≤ k) (f : Bool) (l : List UInt8) (hd : Dev l) (x : Img) (hx : x.fit l) : FnV (CF k) rR [.islc false f 1 (BL l), .iptr false (x.cs false f l)] (.islc false false 1 (NL (Es (Cs l x)))) := by
 have hn := hd.nb
 obtain ⟨hcl, hcm⟩ := Vn hx
 have h1 := Asa (k - 1) (by omega) f l hd x hx
 have h2 := Aeg (k - 1) (by omega) false false (Cs l x) (by omega) hcm
 refine fnk (by omega) Aiw rfl ?_
 unfold pK
 repeat' (first | refine qS ?_ | refine Aa h1 ?_ | refine Aa h2 ?_ | refine qQb ?_ | fail)
 exact ⟨Or.inr rfl, _, rfl, rfl⟩
end Go.Proofs.YtkaiiopoilpjeaaGreat

