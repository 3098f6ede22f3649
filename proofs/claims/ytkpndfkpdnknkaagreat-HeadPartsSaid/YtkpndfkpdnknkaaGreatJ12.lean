import Derived.Test.YtkpndfkpdnknkaaGreatJ11
set_option linter.unusedSimpArgs false
set_option linter.unusedVariables false
set_option maxRecDepth 10000
set_option maxHeartbeats 16000000
namespace Go.Proofs.YtkpndfkpdnknkaaGreat
open Go.AI
attribute [local irreducible] aops Bp Cs Df aop W WO
def Lr (c : List Nat) (a : Nat) : Bool := decide (2 ≤ a ∧ c.getD a default = 0)
def Cm (c : List Nat) : List Nat := (List.range c.length).filter (Lr c)
theorem oW (k : Nat) (hk : 1 ≤ k) (b : Nat) : FnV (CF k) Sx [nav b] (.bool (decide (2147483647 < b))) := by
  unfold nav
  refine fnk (by omega) pH rfl ?_
  unfold Wq
  repeat' (first | refine qS ?_ | refine qN ?_ | refine qQb ?_ | refine Af (fun _ => ?_) (fun _ => ?_))
  all_goals first
    | (refine ⟨Or.inr rfl, _, rfl, ?_⟩
       simp only [cmpP] at *
       show AV.bool _ = AV.bool _
       congr 1
       first
         | exact (An (by omega)).symm
         | exact (Ba (by omega)).symm)
    | (exfalso; simp only [cmpP] at *; omega)
theorem wK (k : Nat) (hk : 1000020 ≤ k) (t f : Bool) (c : List Nat) (hl : c.length ≤ 4096) (hc : ∀ v ∈ c, v < 1000000) : FnV (CF k) eB [.islc t f 1 (NL c)] (.bool true) := by
 have hcf := Jb (k - 1) (by omega) t f c Sx [] (fun b => decide (2147483647 < b)) (by omega) (fun _ => rfl) (fun _ _ => rfl) (fun i hi => oW (k - 3) (by omega) _)
 have hany : (c.any fun b => decide (2147483647 < b)) = false := by
  rw [Wx]
  intro v hv
  have := hc v hv
  simp; omega
 rw [hany] at hcf
 refine fnk (by omega) wO rfl ?_
 unfold bH
 repeat' (first | refine qS ?_ | refine qN ?_ | refine Bi (n := c.length) rfl (Cj _) rfl rfl ?_ | refine Ab hcf ?_ | refine qQb ?_ | refine Af (fun _ => ?_) (fun _ => ?_))
 exact ⟨Or.inr rfl, _, rfl, rfl⟩
theorem jE (k : Nat) (hk : 1000000 < k) (t f : Bool) (c : List Nat) (hl : c.length ≤ 4096) (hc : ∀ v ∈ c, v < 1000000) : FnV (CF k) jV [.islc t f 1 (NL c)] (.islc false false 1 (NL (Cm c))) := by
 refine fnk (by omega) Ack rfl ?_
 unfold fU
 repeat' (first | refine qS ?_ | refine qN ?_ | refine Bi (n := c.length) rfl (Cj _) rfl rfl ?_ | refine qQb ?_ | refine Af (fun _ => ?_) (fun _ => ?_) | refine Bu fun _ => ?_)
 refine W.mono (Q := fun ex T' H' => ex = .exit 0 ∧ H' 1 = ⟨1, false, .row 1 (NL (Cm c))⟩ ∧ T' 3 = .slc 1 1 (Cm c).length 1 0 (Cm c).length none) ?_ ?_
 ·refine Fa c.length (fun i T' H' => H' 1 = ⟨1, false, .row 1 (NL ((List.range i).filter (Lr c)))⟩ ∧ Has T' [(3, .slc 1 1 ((List.range i).filter (Lr c)).length 1 0 ((List.range i).filter (Lr c)).length none), (6, .islc t f 1 (NL c)), (7, .int .i64 c.length), (8, .int .i64 (i : Nat))])
   ⟨rfl, rfl, rfl, rfl, rfl, trivial⟩ (by omega) ?_
  rintro i T H hi ⟨g1, hT⟩
  rw [hT.eq]
  simp only [over]
  by_cases hil : i < c.length
  ·obtain ⟨v, hv⟩ : ∃ v, v = c.getD i default := ⟨_, rfl⟩
   have hvm : v < 1000000 := hc v (by rw [hv]; simp [hil])
   have hst : (List.range (i + 1)).filter (Lr c) = (List.range i).filter (Lr c) ++ (if Lr c i = true then [i] else []) := by
    rw [Jl, Ic]
    congr 1
    simp only [Fl, List.filter_nil]
   have hfl : ((List.range i).filter (Lr c)).length ≤ i := by
    have := Fg (Lr c) (List.range i)
    simpa using this
   obtain ⟨q, hq⟩ : ∃ q, q = (List.range i).filter (Lr c) := ⟨_, rfl⟩
   rw [← hq] at g1 hst hfl ⊢
   by_cases h2 : 2 ≤ i
   ·by_cases h0 : v = 0
    ·have hfr : Lr c i = true := by unfold Lr; exact An ⟨h2, by rw [← hv]; exact h0⟩
     rw [if_pos hfr] at hst
     have hv0 : (v : Int) = 0 := by omega
     repeat' (first
      | refine qS ?_ | refine qN ?_ | refine Vb (enc := nav) v rfl rfl (by omega) (by omega) hv.symm rfl rfl ?_
      | refine Tq rfl rfl rfl (by exact g1) (Cj q) rfl (by omega) rfl rfl (fun _ => ?_) | refine qQb ?_ | refine Af (fun _ => ?_) (fun _ => ?_) | refine Bu fun _ => ?_)
     refine ⟨hil, ?_, ?_, rfl, rfl, by show AV.int _ _ = AV.int _ _; congr 1, trivial⟩
     ·rw [hst, qJ]; rfl
     ·rw [hst, Am]; rfl
    ·have hfr : Lr c i = false := by unfold Lr; exact Ba (fun h => h0 (by rw [hv]; exact h.2))
     rw [if_neg (by rw [hfr]; decide), Bz] at hst
     have hv0 : (v : Int) ≠ 0 := by omega
     repeat' (first | refine qS ?_ | refine qN ?_ | refine Vb (enc := nav) v rfl rfl (by omega) (by omega) hv.symm rfl rfl ?_ | refine qQb ?_ | refine Af (fun _ => ?_) (fun _ => ?_) | refine Bu fun _ => ?_)
     exact ⟨hil, by rw [hst]; exact g1, by rw [hst]; rfl, rfl, rfl, by show AV.int _ _ = AV.int _ _; congr 1, trivial⟩
   ·have hfr : Lr c i = false := by unfold Lr; exact Ba (fun h => h2 h.1)
    rw [if_neg (by rw [hfr]; decide), Bz] at hst
    repeat' (first | refine qS ?_ | refine qN ?_ | refine Vb (enc := nav) v rfl rfl (by omega) (by omega) hv.symm rfl rfl ?_ | refine qQb ?_ | refine Af (fun _ => ?_) (fun _ => ?_) | refine Bu fun _ => ?_)
    exact ⟨hil, by rw [hst]; exact g1, by rw [hst]; rfl, rfl, rfl, by show AV.int _ _ = AV.int _ _; congr 1, trivial⟩
  ·have hin : i = c.length := by omega
   subst hin
   repeat' (first | refine qS ?_ | refine qN ?_ | refine qQb ?_ | refine Af (fun _ => ?_) (fun _ => ?_) | refine Bu fun _ => ?_)
   exact ⟨rfl, g1, rfl⟩
 rintro ex T2 H2 ⟨rfl, g1, h3⟩
 rw [Has.eq (T := T2) (ps := [(3, _)]) ⟨h3, trivial⟩]
 simp only [over]
 show W _ _
 repeat' (first | refine qS ?_ | refine qN ?_ | refine qQb ?_ | refine Af (fun _ => ?_) (fun _ => ?_) | refine Bu fun _ => ?_)
 exact ⟨Or.inr rfl, .slc 1 1 (Cm c).length 1 0 (Cm c).length none, rfl, Gp (out := true) g1 rfl 4⟩
theorem Adi (k : Nat) (hk : 1000030 ≤ k) (t f : Bool) (c : List Nat) (hl : c.length ≤ 4096) (hc : ∀ v ∈ c, v < 1000000) : FnV (CF k) iQ [.islc t f 1 (NL c)] (.tup [.islc false false 1 (NL (Cm c)), .int .i64 0]) := by
 have h1 := wK (k - 1) (by omega) t f c hl hc
 have h2 := jE (k - 1) (by omega) t f c hl hc
 refine fnk (by omega) Abk rfl ?_
 unfold gE
 repeat' (first | refine qS ?_ | refine Ab h1 ?_ | refine Ab h2 ?_ | refine qQb ?_ | fail)
 exact ⟨Or.inr rfl, _, rfl, rfl⟩
theorem Afz (k : Nat) (hk : 1000080 ≤ k) (f : Bool) (l : List UInt8) (hd : Dev l) (x : Img) (hx : x.fit l) : FnV (CF k) oA [.islc false f 1 (BL l), .iptr false (x.cs false f l)] (.islc false false 1 (NL (Cm (Bn l x)))) := by
 have hn := hd.nb
 obtain ⟨hcl, hcm⟩ := Vh hx
 have h1 := zH (k - 1) (by omega) f l hd x hx
 have h2 := Adi (k - 1) (by omega) false false (Bn l x) (by omega) hcm
 refine fnk (by omega) Afe rfl ?_
 unfold mJ
 repeat' (first | refine qS ?_ | refine Ab h1 ?_ | refine Ab h2 ?_ | refine qQb ?_ | fail)
 exact ⟨Or.inr rfl, _, rfl, rfl⟩
end Go.Proofs.YtkpndfkpdnknkaaGreat

