import Derived.Test.YtkaiiopoilpjeaaGreatJ18
set_option linter.unusedSimpArgs false
set_option linter.unusedVariables false
set_option maxRecDepth 10000
set_option maxHeartbeats 16000000
namespace Go.Proofs.YtkaiiopoilpjeaaGreat
open Go.AI
theorem fQ (c : List Nat) : zJ (Cd c) := by
 have h : (Cd c).Pairwise (· < ·) := (List.pairwise_lt_range).filter _
 intro i hi
 have h2 := List.pairwise_iff_getElem.1 h i (i + 1) (by omega) hi (by omega)
 simp only [Af, Aa hi, Aa (show i < (Cd c).length by omega), Ns]
 exact h2
theorem Akm {c : List Nat} {a : Nat} (h : a ∈ Cd c) : 2 ≤ a ∧ a < c.length := by
 unfold Cd at h
 obtain ⟨h1, h2⟩ := Ew.1 h
 unfold La at h2
 have h3 := Cc.1 h1
 simp at h2
 omega
theorem kW (c : List Nat) : (Cd c).length ≤ c.length := by
 have := Ej (La c) (List.range c.length)
 unfold Cd
 simpa using this
theorem vZ {n : Nat} : ∀ (rs : List Rec) (fs : List Nat) (p : Nat), (∀ a ∈ fs, 2 ≤ a ∧ a < n) → ∀ x ∈ Ec rs fs p, okIo n x ∧ x.s = 1
 | [], _, _, _, x, h => by cases h
 | _ :: _, [], _, _, x, h => by cases h
 | r :: rs, a :: fs, p, hf, x, h => by
  simp only [Ec] at h
  rcases Ap.1 h with rfl | h
  ·exact ⟨⟨rfl, hf a (Ct ..), qJ _⟩, rfl⟩
  ·exact vZ rs fs a (fun b hb => hf b (Bu _ hb)) x h
theorem wG {n : Nat} : ∀ (rs : List Rec) (fs : List Nat) (p : Nat), (∀ a ∈ fs, 2 ≤ a ∧ a < n) → (p = 0 ∨ 2 ≤ p ∧ p < n) → (Ez rs fs p = 0 ∨ 2 ≤ Ez rs fs p ∧ Ez rs fs p < n)
 | [], _, _, _, h => h
 | _ :: _, [], _, _, h => h
 | r :: rs, a :: fs, p, hf, h => wG rs fs a (fun b hb => hf b (Bu _ hb)) (.inr (hf a (Ct ..)))
theorem tQ : ∀ (rs : List Rec) (fs : List Nat) (p : Nat), (Ec rs fs p).length ≤ rs.length
 | [], _, _ => by simp [Ec]
 | _ :: _, [], _ => by simp [Ec]
 | r :: rs, a :: fs, p => by
  have := tQ rs fs a
  simp only [Ec, Ao]; omega
def Yk : List Rec → Option Rec
 | r :: _ => if r.kind = 1 then some r else none
 | [] => none
def Arh : Option Rec → AV
 | some r => .tup [r.av, .bool true]
 | none => .tup [rec0.av, .bool false]
attribute [local irreducible] aops Br Cp Dp aop W WO
theorem wX (k : Nat) (hk : 10 ≤ k) (t f : Bool) (s : Nat) (recs : List Rec) (a0 a1 a2 a3 a4 a5 : AV) (hs : s = 8 ∨ recs = []) : FnV (CF k) Pr [.agg [a0, a1, a2, a3, a4, a5, .islc t f s (recs.map Rec.av)]] (Arh (Yk recs)) := by
 refine fnk (by omega) tB rfl ?_
 unfold Wx
 cases recs with
 | nil =>
  repeat' (first | refine qS ?_ | refine qN ?_ | refine Bh (n := 0) rfl rfl rfl rfl ?_ | refine qQb ?_ | refine Ac (fun _ => ?_) (fun _ => ?_))
  exact ⟨Or.inr rfl, _, rfl, rfl⟩
 | cons r rs =>
  obtain rfl : s = 8 := hs.resolve_right (by simp)
  obtain ⟨b1, b2, b3, b4, b5, b6, b7, b8⟩ := r
  have hln : ((⟨b1, b2, b3, b4, b5, b6, b7, b8⟩ :: rs : List Rec).map Rec.av).length = rs.length + 1 := by simp
  have he : ((⟨b1, b2, b3, b4, b5, b6, b7, b8⟩ :: rs : List Rec).map Rec.av)[(0 : Int).toNat]? = some (.agg [.int .i64 b1, .int .i64 b2, .int .i64 b3, .int .i64 b4, .int .i64 b5, .int .i64 b6, .int .i64 b7, .int .i64 b8]) := rfl
  simp only [Yk]
  by_cases h : b6 = 1
  ·subst h
   rw [if_pos rfl]
   repeat' (first | refine qS ?_ | refine qN ?_ | refine Bh (n := rs.length + 1) rfl hln rfl rfl ?_ | refine Da rfl rfl (by omega) he rfl rfl ?_ | refine Vx ?_ | refine qQb ?_ | refine Ac (fun _ => ?_) (fun _ => ?_))
   exact ⟨Or.inr rfl, _, rfl, rfl⟩
  ·rw [if_neg h]
   have h' : (b6 : Int) ≠ 1 := by omega
   repeat' (first | refine qS ?_ | refine qN ?_ | refine Bh (n := rs.length + 1) rfl hln rfl rfl ?_ | refine Da rfl rfl (by omega) he rfl rfl ?_ | refine Vx ?_ | refine qQb ?_ | refine Ac (fun _ => ?_) (fun _ => ?_))
   exact ⟨Or.inr rfl, _, rfl, rfl⟩
def Ls (l : List UInt8) (x : Img) (n : Nat) (first : Rec) (wth : Bool) : Except Nat (List IoV) :=
 if ¬ x.sup.gen < 1099511627776 then .error 8
 else if (Cd (Ay l x)).length < (Fy x.recs n first wth).length then .error 9
 else .ok (Ft x.sup x.slot (Ec (Fy x.recs n first wth) (Cd (Ay l x)) (x.blocks.getD n default)) x.sup.root x.sup.size (Ez (Fy x.recs n first wth) (Cd (Ay l x)) (x.blocks.getD n default)))
def dG : Except Nat (List IoV) → AV
 | .ok ios => .tup [.islc false false 3 (ios.map IoV.av), .int .i64 0]
 | .error e => .tup [.islc false true 0 [], .int .i64 e]
theorem Aiy (k : Nat) (hk : 1000100 ≤ k) (f : Bool) (l : List UInt8) (hd : Dev l) (x : Img) (hx : x.fit l) (n : Nat) (first : Rec) (wth : Bool) (hn : n ≤ x.recs.length) (hfo : wth = true → ({ first with next := 0 } : Rec).ok) :
  FnV (CF k) Xz [.islc false f 1 (BL l), .iptr false (x.cs false f l), .int .i64 n, first.av, .bool wth] (dG (Ls l x n first wth)) := by
 have hnb := hd.nb
 obtain ⟨hcl, hcm⟩ := Oe hx
 have hfree := nE (k - 1) (by omega) f l hd x hx
 obtain ⟨f1, s1, hr, hs1⟩ := rIvF x.recs
 obtain ⟨f2, s2, hb, hs2⟩ := Iv x.blocks
 have hfl := kW (Ay l x)
 have hfm : ∀ a ∈ Cd (Ay l x), 2 ≤ a ∧ a < nb l := fun a ha => by have := Akm ha; rw [hcl] at this; exact this
 have hrec := jH (k - 1) (by omega) x.recs f1 s1 hs1 x.blocks f2 s2 hs2 n first wth (Cd (Ay l x)) false (by have := hx.few; omega) hx.len hn hx.recs hfo (fun a ha => by have := hx.blk a ha; omega) (fun a ha => by have := hfm a ha; omega) (by omega) (fQ _)
 have hp : x.blocks.getD n default = 0 ∨ 2 ≤ x.blocks.getD n default ∧ x.blocks.getD n default < nb l := by
  by_cases h : n < x.blocks.length
  ·right
   rw [Af, Aa h]
   exact hx.blk _ (Bw h)
  ·left
   rw [Af, Dt (by omega)]; rfl
 have hE := wG (n := nb l) (Fy x.recs n first wth) (Cd (Ay l x)) (x.blocks.getD n default) hfm hp
 have hL := vZ (n := nb l) (Fy x.recs n first wth) (Cd (Ay l x)) (x.blocks.getD n default) hfm
 have hLl := tQ (Fy x.recs n first wth) (Cd (Ay l x)) (x.blocks.getD n default)
 have hal : (Fy x.recs n first wth).length < 900 := by
  have := hx.few
  unfold Fy
  rw [An, Afa, Bc]
  cases wth <;> simp <;> omega
 obtain ⟨e, he⟩ : ∃ e, e = Ez (Fy x.recs n first wth) (Cd (Ay l x)) (x.blocks.getD n default) := ⟨_, rfl⟩
 obtain ⟨ios, hios⟩ : ∃ e, e = Ec (Fy x.recs n first wth) (Cd (Ay l x)) (x.blocks.getD n default) := ⟨_, rfl⟩
 have hsok := hx.sup
 have hblk := hx.blocks
 have hst := Ti (k - 1) (by omega) x.sup x.slot f1 s1 (x.recs.map Rec.av) ios false false 3 x.sup.root x.sup.size e hx.sup hx.slot (.inl rfl) (by rw [hios]; omega) (by rw [hios, hblk]; exact hL) (fun hg => by
  refine ⟨⟨by show 1 ≤ x.sup.gen + 1; omega, by show x.sup.gen + 1 ≤ _; omega⟩, hsok.2.1, hsok.2.2.1, hsok.2.2.2.1, ?_⟩
  show e = 0 ∨ 2 ≤ e ∧ e < x.sup.blocks
  rw [hblk, he]; exact hE)
 unfold Ls
 unfold kH at hrec
 rw [← he, ← hios] at hrec ⊢
 obtain ⟨b1, b2, b3, b4, b5, b6, b7, b8⟩ := first
 unfold Rec.av at hrec ⊢
 simp only at hrec ⊢
 obtain ⟨fr, hfr⟩ : ∃ q, q = Cd (Ay l x) := ⟨_, rfl⟩
 rw [← hfr] at hfree hrec ⊢
 obtain ⟨an, han⟩ : ∃ q, q = Fy x.recs n ⟨b1, b2, b3, b4, b5, b6, b7, b8⟩ wth := ⟨_, rfl⟩
 rw [← han] at hrec ⊢
 unfold Img.cs at hfree ⊢
 rw [hr, hb] at hfree ⊢
 obtain ⟨⟨g, b, r, z, fi⟩, slot, recs, blocks, trees⟩ := x
 simp only at hfree hrec hst ⊢
 refine fnk (by omega) Aac rfl ?_
 unfold dV
 by_cases hg : g < 1099511627776
 ·rw [if_neg (by omega)]
  rw [if_pos hg] at hst
  by_cases hsp : fr.length < an.length
  ·rw [if_pos hsp] at hrec ⊢
   repeat' (first
    | refine qS ?_ | refine Dc ?_ | refine Al (hfree) (fun _ => ?_) (fun _ => ?_) | refine Ae (hfree) ?_ | refine Al (hrec) (fun _ => ?_) (fun _ => ?_)
    | refine Ae (hrec) ?_ | refine qQb ?_ | refine Ac (fun _ => ?_) (fun _ => ?_))
   exact ⟨Or.inr rfl, _, rfl, rfl⟩
  ·rw [if_neg hsp] at hrec ⊢
   repeat' (first
    | refine qS ?_ | refine Dc ?_ | refine Al (hfree) (fun _ => ?_) (fun _ => ?_) | refine Ae (hfree) ?_ | refine Al (hrec) (fun _ => ?_) (fun _ => ?_)
    | refine Ae (hrec) ?_ | refine Al (hst) (fun _ => ?_) (fun _ => ?_) | refine Ae (hst) ?_ | refine qQb ?_ | refine Ac (fun _ => ?_) (fun _ => ?_))
   exact ⟨Or.inr rfl, _, rfl, rfl⟩
 ·rw [if_pos hg]
  repeat' (first | refine qS ?_ | refine Dc ?_ | refine Al (hfree) (fun _ => ?_) (fun _ => ?_) | refine Ae (hfree) ?_ | refine qQb ?_ | refine Ac (fun _ => ?_) (fun _ => ?_))
  exact ⟨Or.inr rfl, _, rfl, rfl⟩
end Go.Proofs.YtkaiiopoilpjeaaGreat

